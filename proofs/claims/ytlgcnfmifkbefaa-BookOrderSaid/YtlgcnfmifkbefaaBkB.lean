/- Package book: Check, Most, Gaps, Find, Put. -/
import Derived.Test.YtlgcnfmifkbefaaBkA
set_option linter.unusedVariables false
set_option linter.unusedSimpArgs false
namespace Go.Proofs.Ytlgcnfmifkbefaa
open Go.Sx Go.RowKit

theorem anyStep_k (p : Option Addr) (c : Nat) (S : List (Int × Int)) (h63 : (S.length : Int) ≤ 9223372036854775807) (f : Value) (Pr : Int × Int → Bool) (w : World) (hS : Recs 2 encP w p S) (hf : ∀ e ∈ S, ∀ w', Ext w w' → FnVP Try.prog f [.agg #[.int .i64 e.1, .int .i64 e.2]] w' fun v w'' => Ext w' w'' ∧ v = .bool (Pr e)) :
    FnP Try.prog F_slices_ContainsFunc_book_step_book_step #[.slice p S.length c, f] w fun v w' => Ext w w' ∧ v = .bool (S.any Pr) := by
  refine ok_slices_ContainsFunc_book_step_book_step p S.length c f w _ fun w0 h0 => ?_
  refine FnP.mono (K := fun v w' => Ext w0 w' ∧ ∃ t : Int, v = .int .i64 t ∧ (0 ≤ t ↔ S.any Pr = true)) ?_ fun v w1 ⟨e1, t, hv, ht⟩ => ⟨e1, t, hv, fun w3 h3 => ⟨h3, by congr 1; rw [Bool.eq_iff_iff, decide_eq_true_iff]; exact ht⟩⟩
  refine ok_slices_IndexFunc_book_step_book_step p S.length c f w0 _ ⟨fun k w' => w' = w0 ∧ 0 ≤ k ∧ k ≤ S.length ∧ ∀ j : Nat, (j : Int) < k → Pr (S.getD j default) = false, fun k _ => (S.length - k).toNat, ⟨rfl, by omega, by omega, fun j hj => by omega⟩, ?_⟩
  rintro k w2 ⟨rfl, hk0, hk1, hno⟩
  refine ⟨fun hlt => ?_, fun hge w3 h3 => ⟨h3, -1, rfl, ?_⟩⟩
  · have g0 := (hS.ext h0).idx default hk0 hlt (j := 0) rfl
    have g1 := (hS.ext h0).idx default hk0 hlt (j := 1) rfl
    have hm := getD_mem S default (i := k.toNat) (by omega)
    refine ⟨fun hq => cell_p g0 (pIdx_none.2 hq), hk0, hlt, cell_p g0, _, g0, _, g1, fun w5 h5 => ?_⟩
    obtain ⟨fn, cap, hv, hF⟩ := hf _ hm w5 (h0.trans h5)
    refine ⟨fn, cap, hv, hF.mono fun v w6 ⟨e6, hv⟩ => ⟨e6, _, hv, fun hy w8 h8 => ⟨h8, k, rfl, ?_⟩, fun hn => ⟨i64 (by omega), ⟨rfl, by omega, by omega, fun j hj => ?_⟩, by simp only []; omega⟩⟩⟩
    · exact ⟨fun _ => List.any_eq_true.2 ⟨_, hm, hy⟩, fun _ => hk0⟩
    · by_cases hjk : (j : Int) < k
      · exact hno j hjk
      · obtain rfl : j = k.toNat := by omega
        exact hn
  · refine ⟨fun h => by omega, fun h => ?_⟩
    obtain ⟨e, he, hpe⟩ := List.any_eq_true.1 h
    obtain ⟨i, hi, rfl⟩ := List.getElem_of_mem he
    have := hno i (by omega)
    simp only [List.getD_eq_getElem?_getD, List.getElem?_eq_getElem hi, Option.getD_some] at this
    rw [this] at hpe; cases hpe

theorem over_k (size : Int) (p : Option Addr) (c : Nat) (L : List Sl) (hn : ∀ s ∈ L, 0 ≤ s.n ∧ s.n ≤ 1099511627776) (h101 : L.length ≤ 101) (w : World) (hL : SlsAt w p L) :
    FnP Try.prog F_book_over #[.int .i64 size, .slice p L.length c] w fun v w' => Ext w w' ∧ ∃ b : Bool, v = .bool b ∧ (b = true ↔ ∃ t ∈ times L, size < load L t) := by
  refine ok_book_over size p L.length c w _ fun w0 h0 => ?_
  refine new_own (by intro v hv; simp at hv; subst hv; rfl) fun w1 o1 e1 => fun w2 h2 => ?_
  have c1 : Go.Sx.cell w1 (some ⟨w0.heap.size, 0, none⟩) 0 = some (.int .i64 size) := (o1 0 (Nat.zero_le _)).cells 0 _ rfl
  have x2 := (h0.trans e1).trans h2
  refine (steps_k p c L hn h101 w2 (hL.ext x2)).mono fun v w3 ⟨e3, q, d, hv, _, hS⟩ => ⟨e3, _, _, _, hv, fun w7 h7 => ?_⟩
  have htl := times_len L
  have hA := anyStep_k q d (stepsL L) (by rw [stepsL_len]; omega) (.func (.func F_book_over_1) #[] #[.pointer (some ⟨w0.heap.size, 0, none⟩)]) (fun e => decide (size < e.2)) w7 (hS.ext h7) fun e _ w' hw' => ⟨F_book_over_1, #[.pointer (some ⟨w0.heap.size, 0, none⟩)], rfl, (ok_book_over_1 e.1 e.2 (some ⟨w0.heap.size, 0, none⟩) w' _ fun b0 _ => ⟨size, ext_cell (((h2.trans e3).trans h7).trans hw') c1, fun w2 h2 => ⟨h2, rfl⟩⟩ : FnP Try.prog F_book_over_1 #[.agg #[.int .i64 e.1, .int .i64 e.2], .pointer (some ⟨w0.heap.size, 0, none⟩)] w' _)⟩
  rw [stepsL_len] at hA
  refine hA.mono fun v w8 ⟨e8, hv⟩ => ⟨e8, _, hv, fun w10 h10 => ⟨(x2.trans e3).trans h10, _, rfl, ?_⟩⟩
  rw [List.any_eq_true]
  simp only [stepsL, List.mem_map, decide_eq_true_iff]
  constructor
  · rintro ⟨_, ⟨t, ht, rfl⟩, h⟩; exact ⟨t, ht, h⟩
  · rintro ⟨t, ht, h⟩; exact ⟨_, ⟨t, ht, rfl⟩, h⟩

/-- Slots that are not over. -/
def okB (size : Int) (L : List Sl) : Prop := (1 ≤ size ∧ size ≤ 1099511627776) ∧ L.length ≤ 100 ∧ Vs size L ∧ ∀ t ∈ times L, load L t ≤ size
theorem Vs.bound {size : Int} {L : List Sl} (h : Vs size L) (hs : size ≤ 1099511627776) : ∀ s ∈ L, 0 ≤ s.n ∧ s.n ≤ 1099511627776 := fun s hm => by have := h s hm; omega
theorem okB_all {size : Int} {L : List Sl} (h : okB size L) {t : Int} (h0 : 0 ≤ t) (h1 : t < 1000000) : load L t ≤ size := by
  obtain ⟨k, hk, g1, g2⟩ := cover h.2.2.1 h0 h1
  rw [load_step hk g1 g2]
  exact h.2.2.2 _ (getD_mem (times L) 0 (by omega))
theorem okB_of {size : Int} {L : List Sl} (hs : 1 ≤ size ∧ size ≤ 1099511627776) (hl : L.length ≤ 100) (hv : Vs size L) (h : ∀ t, 0 ≤ t → t < 1000000 → load L t ≤ size) : okB size L := by
  refine ⟨hs, hl, hv, fun t ht => ?_⟩
  have hr := times_range hv ht
  by_cases hc : t < 1000000
  · exact h t hr.1 hc
  · have : load L t = 0 := by
      have key : ∀ M : List Sl, (∀ s ∈ M, s.t ≤ 1000000) → load M t = 0 := by
        intro M
        induction M with
        | nil => intro _; rfl
        | cons s r ih =>
          intro hm
          have := hm s (List.mem_cons_self ..)
          simp only [load, ih fun x hx => hm x (List.mem_cons_of_mem _ hx)]
          unfold part
          rw [if_neg (by omega)]; rfl
      exact key L fun s hm => (hv s hm).2.2.1
    omega

theorem Check_k (size : Int) (p : Option Addr) (c : Nat) (L : List Sl) (h63 : (L.length : Int) ≤ 9223372036854775807) (w : World) (hL : SlsAt w p L) :
    FnP Try.prog F_book_Check #[.int .i64 size, .slice p L.length c] w fun v w' => Ext w w' ∧ ∃ e, v = .int .i64 e ∧ (e = 0 ↔ okB size L) ∧ e ≠ 5 := by
  refine ok_book_Check size p L.length c w _ ⟨fun hs w0 h0 => ⟨h0, _, rfl, ⟨fun h => by omega, fun h => by have := h.1; omega⟩, by omega⟩, fun hs => ⟨fun hl w0 h0 => ⟨h0, _, rfl, ⟨fun h => by omega, fun h => by have := h.2.1; omega⟩, by omega⟩, fun hl => ?_⟩⟩
  refine ⟨fun k w' => w' = w ∧ 0 ≤ k ∧ k ≤ L.length ∧ ∀ j : Nat, (j : Int) < k → (0 ≤ (L.getD j default).f ∧ (L.getD j default).f < (L.getD j default).t ∧ (L.getD j default).t ≤ 1000000 ∧ 1 ≤ (L.getD j default).n ∧ (L.getD j default).n ≤ size), fun k _ => (L.length - k).toNat, ⟨rfl, by omega, by omega, fun j hj => by omega⟩, ?_⟩
  rintro k w2 ⟨rfl, hk0, hk1, hall⟩
  refine ⟨fun hlt => ?_, fun hge w3 h3 => ?_⟩
  · obtain ⟨hp, hp3, g0, g1, g2⟩ := slot_at hL hk0 hlt
    have hm := getD_mem L default (i := k.toNat) (by omega)
    refine ⟨hp, hk0, hlt, hp3, _, g0, _, g1, _, g2, fun b6 _ => ⟨fun hbad w7 h7 => ⟨h7, _, rfl, ⟨fun h => by omega, fun h => by have := h.2.2.1 _ hm; omega⟩, by omega⟩, fun hg => ⟨i64 (by omega), ⟨rfl, by omega, by omega, fun j hj => ?_⟩, by simp only []; omega⟩⟩⟩
    by_cases hjk : (j : Int) < k
    · exact hall j hjk
    · obtain rfl : j = k.toNat := by omega
      omega
  · have hv : Vs size L := fun s hs' => by
      obtain ⟨j, hj, rfl⟩ := List.getElem_of_mem hs'
      have := hall j (by omega)
      simpa [List.getD_eq_getElem?_getD, hj] using this
    refine (over_k size p c L (hv.bound hs.2) (by omega) w3 (hL.ext h3)).mono fun v w4 ⟨e4, b, hv', hb⟩ => ⟨e4, b, hv', fun ht w6 h6 => ⟨h6, _, rfl, ⟨fun h => by omega, fun h => ?_⟩, by omega⟩, fun hf w6 h6 => ⟨h6, _, rfl, ⟨fun _ => ⟨hs, by omega, hv, fun t ht => ?_⟩, fun _ => rfl⟩, by omega⟩⟩
    · obtain ⟨t, ht', hlt⟩ := hb.1 ht
      have := h.2.2.2 t ht'; omega
    · rcases Int.lt_or_le size (load L t) with h | h
      · have := hb.2 ⟨t, ht, h⟩
        rw [hf] at this; cases this
      · exact h

theorem step_at {w : World} {q : Option Addr} {L : List Sl} (h : Recs 2 encP w q (stepsL L)) {k : Int} (h0 : 0 ≤ k) (hk : k < ((times L).length : Int)) : q ≠ none ∧ pIdx q k 2 ≠ none ∧ Go.Sx.cell w (pIdx q k 2) 0 = some (.int .i64 (tm' L k.toNat)) ∧ Go.Sx.cell w (pIdx q k 2) 1 = some (.int .i64 (load L (tm' L k.toNat))) := by
  have hd := stepsL_at (L := L) (k := k.toNat) (by omega)
  have g0 := h.idx default h0 (by rw [stepsL_len]; exact hk) (j := 0) rfl
  have g1 := h.idx default h0 (by rw [stepsL_len]; exact hk) (j := 1) rfl
  rw [hd] at g0 g1
  exact ⟨fun hq => cell_p g0 (pIdx_none.2 hq), cell_p g0, g0, g1⟩

theorem Most_k (size : Int) (p : Option Addr) (c : Nat) (L : List Sl) (h63 : (L.length : Int) ≤ 9223372036854775807) (a b : Int) (w : World) (hL : SlsAt w p L) :
    FnP Try.prog F_book_Most #[.int .i64 size, .slice p L.length c, .int .i64 a, .int .i64 b] w fun v w' => Ext w w' ∧ ∃ m e, v = .tuple #[.int .i64 m, .int .i64 e] ∧
      ((e ≠ 0 ∧ (m = 0 ∧ (okB size L → e = 4)) ∧ ¬ (okB size L ∧ 0 ≤ a ∧ a < b ∧ b ≤ 1000000)) ∨ (e = 0 ∧ okB size L ∧ 0 ≤ a ∧ a < b ∧ b ≤ 1000000 ∧ isMost L a b m)) := by
  refine ok_book_Most size p L.length c a b w _ fun w0 h0 => ?_
  refine (Check_k size p c L h63 w0 (hL.ext h0)).mono fun v w1 ⟨e1, e, hv, he, _⟩ => ⟨e1, e, hv, fun hne w3 h3 => ⟨h3, _, _, rfl, .inl ⟨hne, ⟨rfl, fun h => absurd (he.2 h) hne⟩, fun h => hne (he.2 h.1)⟩⟩, fun h0' => ⟨fun hr w3 h3 => ⟨h3, _, _, rfl, .inl ⟨by omega, ⟨rfl, fun _ => rfl⟩, fun h => by omega⟩⟩, fun ⟨⟨ha, hab⟩, hb⟩ w3 h3 => ?_⟩⟩
  have hok := he.1 h0'
  refine (steps_k p c L (hok.2.2.1.bound hok.1.2) (by have := hok.2.1; omega) w3 (hL.ext h3)).mono fun v w4 ⟨e4, q, d, hv, hd, hS⟩ => ⟨e4, q, _, d, hv, ?_⟩
  have htl := times_len L
  have ht2 := times_two L
  have hl100 := hok.2.1
  have hlen : (((times L).length : Int) - 1 - 0).toNat = (times L).length - 1 := by omega
  refine ⟨i64 (by omega), by omega, by omega, by omega, ?_⟩
  rw [hlen]
  have hpc : pCut q d 0 2 = q := pCut_zero q d 2
  rw [hpc]
  -- so far: the most of the steps ahead that meet it
  let met : Nat → Prop := fun i => tm' L i < b ∧ a < tm' L (i + 1)
  refine ⟨fun m k w' => w' = w4 ∧ 0 ≤ k ∧ k ≤ ((times L).length - 1 : Nat) ∧ 0 ≤ m ∧ (∀ i : Nat, (i : Int) < k → met i → load L (tm' L i) ≤ m) ∧ (m = 0 ∨ ∃ i : Nat, (i : Int) < k ∧ met i ∧ load L (tm' L i) = m), fun _ k _ => ((times L).length - k).toNat, ⟨rfl, by omega, by omega, by omega, fun i hi => by omega, .inl rfl⟩, ?_⟩
  rintro m k w11 ⟨rfl, hk0, hk1, hm0, hle, hex⟩
  refine ⟨fun hlt => ?_, fun hge w12 h12 => ?_⟩
  · obtain ⟨hq, hq2, g0, g1⟩ := step_at hS hk0 (by omega)
    obtain ⟨_, hq2', f0, f1⟩ := step_at hS (k := k + 1) (by omega) (by omega)
    have hk1' : (k + 1).toNat = k.toNat + 1 := by omega
    rw [hk1'] at f0 f1
    have hld := (load_bound (hok.2.2.1.bound hok.1.2) (tm' L k.toNat)).1
    refine ⟨hq, hk0, hlt, hq2, _, g0, _, g1, fun b14 _ => ⟨fun _ => i64 (by omega), fun _ => hq, fun _ => by omega, fun _ => by omega, fun _ => hq2', fun hin => ⟨_, by rw [cell_pAdd]; exact f0, fun hin2 => ⟨i64 (by omega), ⟨rfl, by omega, by omega, by omega, fun i hi hmi => ?_, ?_⟩, by simp only []; omega⟩, fun hout => ⟨i64 (by omega), ⟨rfl, by omega, by omega, hm0, fun i hi hmi => ?_, ?_⟩, by simp only []; omega⟩⟩, fun hout => ⟨i64 (by omega), ⟨rfl, by omega, by omega, hm0, fun i hi hmi => ?_, ?_⟩, by simp only []; omega⟩⟩⟩
    · by_cases hik : (i : Int) < k
      · have := hle i hik hmi; omega
      · obtain rfl : i = k.toNat := by omega
        omega
    · by_cases hmx : m ≤ load L (tm' L k.toNat)
      · exact .inr ⟨k.toNat, by omega, ⟨hin, hin2⟩, by omega⟩
      · rcases hex with h | ⟨i, hi, h1, h2⟩
        · omega
        · exact .inr ⟨i, by omega, h1, by omega⟩
    · by_cases hik : (i : Int) < k
      · exact hle i hik hmi
      · obtain rfl : i = k.toNat := by omega
        have := hmi.2; omega
    · rcases hex with h | ⟨i, hi, h1, h2⟩
      · exact .inl h
      · exact .inr ⟨i, by omega, h1, h2⟩
    · by_cases hik : (i : Int) < k
      · exact hle i hik hmi
      · obtain rfl : i = k.toNat := by omega
        have := hmi.1; omega
    · rcases hex with h | ⟨i, hi, h1, h2⟩
      · exact .inl h
      · exact .inr ⟨i, by omega, h1, h2⟩
  · have hup : ∀ t, a ≤ t → t < b → load L t ≤ m := fun t h1 h2 => by
      obtain ⟨i, hi, g1, g2⟩ := cover hok.2.2.1 (show 0 ≤ t by omega) (by omega)
      rw [load_step hi g1 g2]
      exact hle i (by omega) ⟨by omega, by omega⟩
    refine ⟨(h3.trans e4).trans h12, _, _, rfl, .inr ⟨rfl, hok, ha, hab, hb, hup, ?_⟩⟩
    rcases hex with rfl | ⟨i, hi, ⟨g1, g2⟩, h⟩
    · refine ⟨a, Int.le_refl _, hab, ?_⟩
      have := hup a (Int.le_refl _) hab
      have := (load_bound (hok.2.2.1.bound hok.1.2) a).1
      omega
    · have hlt := times_lt (L := L) (Nat.lt_succ_self i) (by omega)
      by_cases hai : a ≤ tm' L i
      · exact ⟨tm' L i, hai, g1, h⟩
      · exact ⟨a, Int.le_refl _, hab, by rw [load_step (i := i) (by omega) (by omega) g2]; exact h⟩

theorem setAt_right (xs : List Value) : ∀ (vs ys : List Value) (i : Nat), setAt (xs ++ ys) (xs.length + i) vs = xs ++ setAt ys i vs
  | [], ys, i => rfl
  | v :: r, ys, i => by
    simp only [setAt]
    rw [List.set_append_right _ _ (by omega), show xs.length + i - xs.length = i by omega, show xs.length + i + 1 = xs.length + (i + 1) by omega]
    exact setAt_right xs r _ _
theorem setAt_left (ys : List Value) : ∀ (vs xs : List Value) (i : Nat), i + vs.length ≤ xs.length → setAt (xs ++ ys) i vs = setAt xs i vs ++ ys
  | [], xs, i, _ => rfl
  | v :: r, xs, i, h => by
    simp only [setAt]
    simp only [List.length_cons] at h
    rw [List.set_append_left _ _ (by omega)]
    exact setAt_left ys r _ _ (by simp; omega)
/-- Some cells of one record. -/
theorem recs_part {α : Type} {enc : α → List Value} {s : Nat} (hs : ∀ x, (enc x).length = s) (L : List α) (i j : Nat) (vs : List Value) (x d : α) (hi : i < L.length) (hj : j + vs.length ≤ s) (he : setAt (enc (L.getD i d)) j vs = enc x) :
    setAt (L.flatMap enc) (i * s + j) vs = (L.set i x).flatMap enc := by
  have hd : L.getD i d = L[i] := by simp [List.getD_eq_getElem?_getD, hi]
  have h1 : L = L.take i ++ L[i] :: L.drop (i + 1) := by rw [List.getElem_cons_drop, List.take_append_drop]
  have h2 : L.set i x = L.take i ++ x :: L.drop (i + 1) := by
    rw [List.set_eq_take_append_cons_drop, if_pos hi]
  rw [h2]
  conv => lhs; rw [h1]
  simp only [List.flatMap_append, List.flatMap_cons]
  have hl : ((L.take i).flatMap enc).length = i * s := by rw [recs_len hs, List.length_take, Nat.min_eq_left (by omega)]
  rw [← hl, setAt_right, setAt_left _ _ _ _ (by rw [hs]; omega), ← hd, he]

theorem bk_part (L : List Sl) (i j : Nat) (vs : List Value) (x : Sl) (hi : i < L.length) (hj : j + vs.length ≤ 3) (he : setAt (encS (L.getD i default)) j vs = encS x) : setAt (L.flatMap encS) (i * 3 + j) vs = (L.set i x).flatMap encS := recs_part (enc := encS) (s := 3) (fun _ => rfl) L i j vs x default hi hj he
theorem gapsK_len (size n : Int) (L : List Sl) (k : Nat) : (gapsK size n L k).length ≤ k := by
  induction k with
  | zero => exact Nat.le_refl _
  | succ k ih =>
    rw [gapsK]; unfold gstep
    split
    · omega
    · split
      · rw [List.length_set]; omega
      · rw [List.length_append, List.length_singleton]; omega

theorem gaps_k (size : Int) (p : Option Addr) (c : Nat) (L : List Sl) (hok : okB size L) (n : Int) (hn : 1 ≤ n ∧ n ≤ size) (w : World) (hL : SlsAt w p L) :
    FnP Try.prog F_book_gaps #[.int .i64 size, .slice p L.length c, .int .i64 n] w fun v w' => Ext w w' ∧ ∃ q d, v = .slice q (gapsF size n L).length d ∧ SlsAt w' q (gapsF size n L) := by
  refine ok_book_gaps size p L.length c n w _ fun w0 h0 => ?_
  refine (steps_k p c L (hok.2.2.1.bound hok.1.2) (by have := hok.2.1; omega) w0 (hL.ext h0)).mono fun v w1 ⟨e1, q, d, hv, hd, hS⟩ => ⟨e1, q, _, d, hv, ?_⟩
  have htl := times_len L
  have ht2 := times_two L
  have hl100 := hok.2.1
  have hsz := hok.1
  have hlen : (((times L).length : Int) - 1 - 0).toNat = (times L).length - 1 := by omega
  refine ⟨i64 (by omega), by omega, by omega, by omega, ?_⟩
  rw [hlen]
  have hpc : pCut q d 0 2 = q := pCut_zero q d 2
  rw [hpc]
  have x1 := h0.trans e1
  refine ⟨fun o l c' k w' => Ext w w' ∧ Ext w1 w' ∧ 0 ≤ k ∧ k ≤ ((times L).length - 1 : Nat) ∧ l = (gapsK size n L k.toNat).length ∧ Own w1.heap.size w' T_Slot 3 o l c' ((gapsK size n L k.toNat).flatMap encS), fun _ _ _ k _ => ((times L).length - k).toNat, ⟨x1, Ext.refl _, by omega, by omega, rfl, Own.nil⟩, ?_⟩
  rintro o l c' k w8 ⟨x8, y8, hk0, hk1, rfl, o8⟩
  refine ⟨fun hlt => ?_, fun hge w9 h9 => ⟨x8.trans h9, o, c', ?_, ?_⟩⟩
  · obtain ⟨hq, hq2, g0, g1⟩ := step_at (hS.ext y8) hk0 (by omega)
    obtain ⟨_, hq2', f0, f1⟩ := step_at (hS.ext y8) (k := k + 1) (by omega) (by omega)
    have hk1' : (k + 1).toNat = k.toNat + 1 := by omega
    rw [hk1'] at f0 f1
    have hld := load_bound (hok.2.2.1.bound hok.1.2) (tm' L k.toNat)
    have hgl := gapsK_len size n L k.toNat
    have hGI := gaps_ok (n := n) hok.2.2.1 k.toNat (by omega)
    have hst : gapsK size n L (k.toNat + 1) = gstep size n (gapsK size n L k.toNat) (tm' L k.toNat) (load L (tm' L k.toNat)) (tm' L (k.toNat + 1)) := rfl
    generalize hout : gapsK size n L k.toNat = out at o8 hgl hst hGI
    refine ⟨hq, hk0, hlt, hq2, _, g0, _, g1, fun b11 hb11 => ⟨i64 (by omega), i64 (by omega), hq, by omega, by omega, hq2', _, by rw [cell_pAdd]; exact f0, i64 (by omega), fun hfew => ⟨i64 (by omega), ⟨x8, y8, by omega, by omega, ?_, ?_⟩, by simp only []; omega⟩, fun hfr => ?_⟩⟩
    · rw [hk1', hst]; unfold gstep; rw [if_pos hfew]
    · rw [hk1', hst]; unfold gstep; rw [if_pos hfew]; exact o8
    have push : ¬ (0 < out.length ∧ (out.getD (out.length - 1) default).t = tm' L k.toNat) → ∀ w1', ExtB [] [b11] w8 w1' → Run Try.prog (.buildSlice T_sl_Slot 1 [(0, .agg #[.int .i64 (tm' L k.toNat), .int .i64 (tm' L (k.toNat + 1)), .int .i64 (size - load L (tm' L k.toNat))])]) w1' fun v2 w2 => Ext w1' w2 ∧ ∃ q' : Option Addr, ∃ m' : Nat, ∃ d' : Nat, v2 = .slice q' m' d' ∧ ∀ w3, ExtB [] [b11] w2 w3 →
        Run Try.prog (.append #[T_sl_Slot, T_sl_Slot] T_sl_Slot [.slice o out.length c', .slice q' m' d']) w3 fun v4 w4 => Kept [b11] w3 w4 ∧ ∃ q'' : Option Addr, ∃ m'' : Nat, ∃ d'' : Nat, v4 = .slice q'' m'' d'' ∧ (InR .i64 (k + 1) ∧ ((Ext w w4 ∧ Ext w1 w4 ∧ 0 ≤ k + 1 ∧ k + 1 ≤ ((times L).length - 1 : Nat) ∧ m'' = (gapsK size n L (k + 1).toNat).length ∧ Own w1.heap.size w4 T_Slot 3 q'' m'' d'' ((gapsK size n L (k + 1).toNat).flatMap encS)) ∧ ((times L).length - (k + 1)).toNat < ((times L).length - k).toNat)) := fun hno => by
      have hnew : gapsK size n L (k + 1).toNat = out ++ [⟨tm' L k.toNat, tm' L (k.toNat + 1), size - load L (tm' L k.toNat)⟩] := by
        rw [hk1', hst]; unfold gstep; rw [if_neg (by omega), if_neg hno]
      refine push_valsB (m := 1) elem_sl_Slot (by omega) [.agg #[.int .i64 (tm' L k.toNat), .int .i64 (tm' L (k.toNat + 1)), .int .i64 (size - load L (tm' L k.toNat))]] (by intro v hv; simp at hv; subst hv; rfl) (ys := encS ⟨tm' L k.toNat, tm' L (k.toNat + 1), size - load L (tm' L k.toNat)⟩) rfl rfl (by intro v hv; simp at hv; rcases hv with rfl | rfl | rfl <;> rfl) (by simp) (by simp) rfl rfl o8 y8.size (fun b hb x hx => by simp at hb; subst hb; have := (o8.lt x hx).2; omega) (by omega) (by omega) fun p' c'' w' o' g' _ _ => ⟨i64 (by omega), ⟨g'.below (x8 : Ext w w8) (Nat.le_trans x1.size y8.size) (fun a ha => by have := (o8.lt a ha).1; have := x1.size; omega), g'.ext y8 o8, by omega, by omega, ?_, ?_⟩, by omega⟩
      · rw [hnew]; simp
      · rw [hnew, List.flatMap_append]; simpa using o'
    refine ⟨fun h1 => o8.ne1 (by omega) (by omega), fun h1 => h1, fun h1 => by omega, fun h1 hq => o8.ne1 (by omega) (by omega) (pIdx_none.1 hq), fun h1 => ?_, fun h1 => push (by omega)⟩
    have hp0 : 0 < out.length := by omega
    have ho := o8.ne1 (by omega) (by omega)
    have ho3 : pIdx o ((out.length : Int) - 1) 3 ≠ none := fun hq => ho (pIdx_none.1 hq)
    have r8 : Recs 3 encS w8 o out := o8.recs fun _ _ => rfl
    obtain ⟨_, _, s0, s1, s2⟩ := slot_at r8 h1 (by omega)
    rw [show ((out.length : Int) - 1).toNat = out.length - 1 by omega] at s0 s1 s2
    refine ⟨_, by rw [cell_pAdd]; exact s1, fun heq => ?_, fun hne => push fun h => hne h.2⟩
    refine ⟨ho, h1, by omega, ho3, _, by rw [cell_pAdd]; exact s2, ho, h1, by omega, ho3, ?_⟩
    have hgm := getD_mem out default (i := out.length - 1) (by omega)
    generalize hgd : out.getD (out.length - 1) default = g at s0 s1 s2 heq hgm
    have hin : InR .i64 (min g.n (size - load L (tm' L k.toNat))) := by
      obtain ⟨u1, u2, u3, u4, u5, tt, u6, u7, u8⟩ := hGI.each g hgm
      have := load_bound (hok.2.2.1.bound hok.1.2) tt
      exact i64 (by omega)
    have frees : ∀ b ∈ [b11], ∀ x, o = some x → x.block ≠ b := fun b hb x hx => by simp at hb; subst hb; have := (o8.lt x hx).2; omega
    have hb11s := hb11
    refine store_own o8 pAdd_map (by rw [recs_len (enc := encS) (s := 3) (fun _ => rfl)]; simp; omega) (by simp) (by intro v hv; simp at hv; subst hv; rfl) frees fun w15 o15 g15 => ?_
    rw [show ((out.length : Int) - 1).toNat = out.length - 1 by omega] at o15
    rw [bk_part out (out.length - 1) 1 [.int .i64 (tm' L (k.toNat + 1))] ⟨g.f, tm' L (k.toNat + 1), g.n⟩ (by omega) (by simp) (by rw [hgd]; rfl)] at o15
    refine ⟨ho, h1, by omega, ho3, ?_⟩
    refine store_own o15 pAdd_map (by rw [recs_len (enc := encS) (s := 3) (fun _ => rfl), List.length_set]; simp; omega) (by simp) (by intro v hv; simp at hv; subst hv; rfl) frees fun w16 o16 g16 => ?_
    rw [show ((out.length : Int) - 1).toNat = out.length - 1 by omega] at o16
    rw [bk_part (out.set (out.length - 1) ⟨g.f, tm' L (k.toNat + 1), g.n⟩) (out.length - 1) 2 [.int .i64 (min g.n (size - load L (tm' L k.toNat)))] ⟨g.f, tm' L (k.toNat + 1), min g.n (size - load L (tm' L k.toNat))⟩ (by rw [List.length_set]; omega) (by simp) (by
      rw [List.getD_eq_getElem?_getD, List.getElem?_set_self (by omega)]; rfl), List.set_set] at o16
    have hnew : gapsK size n L (k + 1).toNat = out.set (out.length - 1) ⟨g.f, tm' L (k.toNat + 1), min g.n (size - load L (tm' L k.toNat))⟩ := by
      rw [hk1', hst]; unfold gstep; rw [if_neg (by omega), hgd, if_pos ⟨hp0, heq⟩]
    have y16 : Ext w1 w16 := g16.ext (g15.ext y8 o8) o15
    have x16 : Ext w w16 := x1.trans y16
    refine ⟨i64 (by omega), ⟨x16, y16, by omega, by omega, ?_, ?_⟩, by simp only []; omega⟩
    · rw [hnew, List.length_set]
    · rw [hnew]; exact o16
  · have : k.toNat = (times L).length - 1 := by omega
    rw [this]; rfl
  · have : k.toNat = (times L).length - 1 := by omega
    rw [this] at o8
    exact (o8.recs fun _ _ => rfl).ext h9
end Go.Proofs.Ytlgcnfmifkbefaa
