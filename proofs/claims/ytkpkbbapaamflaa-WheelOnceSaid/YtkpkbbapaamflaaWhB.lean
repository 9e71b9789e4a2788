/- The time goes on: the slots that are begun come down. -/
import Derived.Test.YtkpkbbapaamflaaWhA
set_option linter.unusedVariables false
set_option linter.unusedSimpArgs false
namespace Go.Proofs.Ytkpkbbapaamflaa
open Go.Sx Go.RowKit

theorem Lies.rows {f : Int → Nat} {L : List Tm} {R R' : Nat → List Tm} (h : Lies f L R) (he : ∀ j, j < 320 → R' j = R j) : Lies f L R' :=
  ⟨fun j hj => by rw [he j hj]; exact h.perm j hj, fun j hj => by rw [he j hj]; exact h.came j hj⟩
theorem Lies.len {f : Int → Nat} {L : List Tm} {R : Nat → List Tm} (h : Lies f L R) {j : Nat} (hj : j < 320) : (R j).length ≤ L.length := by
  rw [(h.perm j hj).length_eq]; exact List.length_filter_le ..
theorem rec_at {w : World} {p : Option Addr} {l : List Tm} (h : Recs 3 tmc w p l) {i : Nat} (hi : i < l.length) : p ≠ none ∧ pIdx p (i : Int) 3 ≠ none ∧ cell w (pIdx p (i : Int) 3) 0 = some (.int .i64 l[i].t) ∧ cell w (pIdx p (i : Int) 3) 1 = some (.int .i64 l[i].id) ∧ cell w (pIdx p (i : Int) 3) 2 = some (.int .i64 l[i].bn) := by
  have hx : l[((i : Int)).toNat]? = some l[i] := by rw [Int.toNat_natCast]; exact List.getElem?_eq_getElem hi
  have hp := h.ne (List.mem_of_getElem? hx) (by simp [tmc])
  exact ⟨hp, pIdx_ne hp, h.at (by omega) hx (j := 0) rfl, h.at (by omega) hx (j := 1) rfl, h.at (by omega) hx (j := 2) rfl⟩

section
variable {B : Nat} {w : World} {wb mb : Nat} {now born : Int} {M : List (Int × Value)} {R : Nat → Row}

theorem to_k (h : WI B w wb mb now born M R) (hB : B ≤ w.heap.size) {L : List Tm} {to : Int} (hl : Lies (sx now) L fun j => (R j).l) (hw : ∀ x ∈ L, to ≤ x.t ∧ x.t - now ≤ 16777216) (h0 : 0 ≤ now) (h1 : now ≤ to) (h2 : to ≤ 4611686018427387904) (hn : L.length ≤ 40000) :
    FnP Try.prog F_wheel_Wheel_to #[.pointer (ptr wb), .int .i64 to] w fun v w' => v = .tuple #[] ∧ ∃ R', WI B w' wb mb to born M R' ∧ (Lies (sx to) L fun j => (R' j).l) ∧ Fr (WF wb mb R) w w' ∧ (∀ b, WF wb mb R' b → WF wb mb R b ∨ w.heap.size ≤ b) := by
  have nn := ptr_ne wb
  refine ok_wheel_Wheel_to (ptr wb) to w _ ⟨nn, nn, now, h.nw, nn, nn, store_one (off := 0) h.slot (by rw [whc_len]; omega) rfl (by simp) fun w1 o1 g1 => ?_⟩
  have i1 : WI B w1 wb mb to born M R := h.put o1 g1
  have fg1 : Fr (WF wb mb R) w w1 := fr_grew g1 fun a ha => by cases ha; exact .inl rfl
  refine ⟨fun lv w' => ∃ n : Nat, lv = n ∧ n ≤ 4 ∧ ∃ R', WI B w' wb mb to born M R' ∧ (Lies (cs now to n) L fun j => (R' j).l) ∧ Fr (WF wb mb R) w w' ∧ (∀ b, WF wb mb R' b → WF wb mb R b ∨ w.heap.size ≤ b), fun lv _ => lv.toNat,
    ⟨4, rfl, by omega, R, i1, hl.cong fun x _ => (cs_four now to x.t).symm, fg1, fun b hb => .inl hb⟩, ?_⟩
  rintro lv w4 ⟨n, rfl, hn4, R1, i4, l4, f4, k4⟩
  refine ⟨fun hpos => ?_, fun hle w5 h5 => ?_⟩
  · have hn0 : 0 < n := by omega
    have e1 : ((n : Int) - 1) = ((n - 1 : Nat) : Int) := by omega
    rw [shr_k now hn4, shr_k to hn4, ← shr_k to hn4, ix_k (by omega) (by omega) hn4, shr_k to hn4]
    refine ⟨i64 (by omega), by omega, i64 (by omega), by omega, fun he => ⟨i64 (by omega), ⟨n - 1, e1, by omega, R1, i4, l4.cong fun x hx => (cs_skip h1 (hw x hx).1 (hw x hx).2 hn0 he).symm, f4, k4⟩, by simp only []; omega⟩, fun hne => ?_⟩
    have hx := ix_lt n to
    have hj0 : n * 64 + ix n to < 320 := by omega
    rw [slot_addr]
    generalize hj : n * 64 + ix n to = j0 at hj0
    have hnn := pAdd_ne (n := 3 + j0) nn
    refine ⟨i64 (by omega), by omega, nn, nn, pAdd_ne nn, by omega, by omega, pIdx_ne (pAdd_ne nn), by omega, by omega, hnn, _, _, _, i4.at hj0, hnn, ?_⟩
    refine store_one (off := 3 + j0) i4.slot (by rw [whc_len]; omega) rfl (by simp) fun w8 o8 g8 => ?_
    have fg8 : Fr (WF wb mb R) w4 w8 := fr_grew g8 fun a ha => by cases ha; exact .inl rfl
    have i8 : WI B w8 wb mb to born M (upd R1 j0 ⟨none, 0, []⟩) := by
      refine (i4.aside j0).back hj0 ?_ g8 Own.nil (fun a ha => by cases ha)
      rw [← whc_set hj0]; exact o8
    have f8 := f4.tr fg8
    have s8 := f8.size
    -- the row's own cells
    have apart0 : ∀ a, (R1 j0).p = some a → a.block ≠ wb := fun a ha => (i4.aw j0 hj0 a ha).1
    have r8 : Recs 3 tmc w8 (R1 j0).p (R1 j0).l := Own.recs ((i4.row j0 hj0).st (fun u v hu hv => by cases hv; exact apart0 u hu) g8) fun x _ => tmc_len x
    have k8 : ∀ b, WF wb mb (upd R1 j0 ⟨none, 0, []⟩) b → WF wb mb R b ∨ w.heap.size ≤ b := fun b hb => by
      rcases WF.upd (n := w.heap.size) hj0 (fun a ha => by cases ha) hb with h | h
      · exact k4 b h
      · exact .inr h
    have n8 : ∀ a, (R1 j0).p = some a → ¬ WF wb mb (upd R1 j0 ⟨none, 0, []⟩) a.block := fun a ha hc => by
      rcases hc with hc | hc | ⟨j, hjl, b, hb, he⟩
      · exact (i4.aw j0 hj0 a ha).1 hc
      · exact (i4.aw j0 hj0 a ha).2 hc
      · by_cases hjj : j = j0
        · subst hjj; rw [upd_at] at hb; cases hb
        · rw [upd_ne _ _ hjj] at hb
          exact i4.ap j j0 hjl hj0 hjj b a hb ha he
    have lt8 : ∀ a, (R1 j0).p = some a → a.block < w8.heap.size := fun a ha => Nat.lt_of_lt_of_le ((i4.row j0 hj0).lt a ha).2 fg8.size
    refine ⟨fun k w' => ∃ m : Nat, k = m ∧ m ≤ (R1 j0).l.length ∧ ∃ R3, WI B w' wb mb to born M R3 ∧ (∀ j, j < 320 → (R3 j).l = (if j = j0 then [] else (R1 j).l) ++ ((R1 j0).l.take m).filter fun x => decide (sx to x.t = j)) ∧ Recs 3 tmc w' (R1 j0).p (R1 j0).l ∧
        (∀ a, (R1 j0).p = some a → ¬ WF wb mb R3 a.block ∧ a.block < w'.heap.size) ∧ Fr (WF wb mb R) w w' ∧ (∀ b, WF wb mb R3 b → WF wb mb R b ∨ w.heap.size ≤ b), fun k _ => ((R1 j0).l.length - k).toNat,
      ⟨0, rfl, by omega, _, i8, fun j hjl => ?_, r8, fun a ha => ⟨n8 a ha, lt8 a ha⟩, f8, k8⟩, ?_⟩
    · by_cases hjj : j = j0
      · subst hjj; rw [upd_at, if_pos rfl]; simp
      · rw [upd_ne _ _ hjj, if_neg hjj]; simp
    rintro k w11 ⟨m, rfl, hm, R3, i11, hrow, r11, n11, f11, k11⟩
    refine ⟨fun hlt => ?_, fun hge => ?_⟩
    · have hml : m < (R1 j0).l.length := by omega
      obtain ⟨a1, a2, a3, a4, a5⟩ := rec_at r11 hml
      refine ⟨a1, by omega, by omega, a2, _, a3, _, a4, _, a5, fun b hb w16 x16 => ?_⟩
      have h16 := extB_ext x16
      have i16 := i11.ext h16
      have hxm : (R1 j0).l[m] ∈ L := ((l4.mem hj0).1 (List.getElem_mem hml)).1
      have hb16 : B ≤ w16.heap.size := Nat.le_trans hB (Nat.le_trans f11.size h16.size)
      have hxt := hw _ hxm
      have q3 : (R1 j0).l.length ≤ L.length := l4.len hj0
      have hlen : (R3 (sx to (R1 j0).l[m].t)).l.length ≤ 100000 := by
        rw [hrow _ (sx_lt _ _), List.length_append]
        have q1 : (if sx to (R1 j0).l[m].t = j0 then [] else (R1 (sx to (R1 j0).l[m].t)).l).length ≤ L.length := by
          split
          · simp
          · exact l4.len (sx_lt _ _)
        have q2 : (((R1 j0).l.take m).filter fun x => decide (sx to x.t = sx to (R1 j0).l[m].t)).length ≤ L.length :=
          Nat.le_trans (List.length_filter_le ..) (by rw [List.length_take]; omega)
        omega
      refine (put_k i16 hb16 (by omega) (by omega) (R1 j0).l[m] (by omega) (by omega) hlen).mono fun v w17 ⟨hv, p', c', i17, f17, k17⟩ => ⟨?_, hv, i64 (by omega), ⟨m + 1, by omega, by omega, _, i17, fun j hjl => ?_, ?_, fun a ha => ?_, ?_, fun b' hb' => ?_⟩, by simp only []; omega⟩
      · refine f17.kept fun b' hb' => ⟨x16.lt b' hb', fun hc => ?_⟩
        obtain rfl : b' = b := by simpa using hb'
        have := (i11.foot hc).2; omega
      · rw [List.take_succ_eq_append_getElem hml, List.filter_append, ← List.append_assoc, ← hrow j hjl]
        by_cases hjj : j = sx to (R1 j0).l[m].t
        · subst hjj; rw [upd_at]; simp
        · rw [upd_ne _ _ hjj]
          have : ¬ sx to (R1 j0).l[m].t = j := fun h => hjj h.symm
          simp [this]
      · intro i x hx j u hu
        exact cell_fr (ext_cell h16 (r11 i x hx j u hu)) f17 fun a ha => (n11 a ha).1
      · refine ⟨fun hc => ?_, ?_⟩
        · rcases k17 _ hc with hc | hc
          · exact (n11 a ha).1 hc
          · have := (n11 a ha).2
            have := h16.size
            omega
        · have := (n11 a ha).2
          have := h16.size
          have := f17.size
          omega
      · exact (f11.tr (fr_ext h16)).trans f17 fun b' hb' => k11 b' hb'
      · rcases k17 b' hb' with h | h
        · exact k11 b' h
        · exact .inr (Nat.le_trans (Nat.le_trans f11.size h16.size) h)
    · have hml : m = (R1 j0).l.length := by omega
      subst hml
      refine ⟨i64 (by omega), ⟨n - 1, e1, by omega, R3, i11, ?_, f11, k11⟩, by simp only []; omega⟩
      have mv := l4.move (g := sx to) hj0
      refine (mv.rows fun j hjl => ?_).cong fun x hx => ?_
      · rw [hrow j hjl, List.take_length]
      · rw [cs_move h1 (hw x hx).1 (hw x hx).2 hn0 hn4 hne, hj]
  · obtain rfl : n = 0 := by omega
    refine ⟨rfl, R1, i4.ext h5, l4.cong fun x hx => cs_zero h1 (hw x hx).1 (hw x hx).2, f4.tr (fr_ext h5), k4⟩
end
end Go.Proofs.Ytkpkbbapaamflaa
