/- The law BookOrder. -/
import Derived.Test.YtlgcnfmifkbefaaBkF
import Derived.Test.YtlgcnfmifkbefaaSxD
set_option linter.unusedVariables false
set_option linter.unusedSimpArgs false
namespace Go.Proofs.Ytlgcnfmifkbefaa
open Go.Sx Go.RowKit

theorem store_slot {B : Nat} {w : World} {q : Option Addr} {n c : Nat} {M : List Sl} {i : Int} {x : Sl} {K : World → Prop} (ho : Own B w T_Slot 3 q n c (M.flatMap encS)) (h0 : 0 ≤ i) (hi : i < M.length)
    (hk : ∀ w', Own B w' T_Slot 3 q n c ((M.set i.toNat x).flatMap encS) → Grew w w' q q → K w') : Store w (pIdx q i 3) [.int .i64 x.f, .int .i64 x.t, .int .i64 x.n] [] K := by
  refine store_own ho pIdx_map (by rw [recs_len (enc := encS) (s := 3) (fun _ => rfl)]; simp; omega) (by simp) (by intro v hv; simp at hv; rcases hv with rfl | rfl | rfl <;> rfl) (by simp) fun w' o g => hk w' ?_ g
  have := recs_set (enc := encS) (s := 3) (fun _ => rfl) M i.toNat x (by omega)
  rw [← this]; exact o

theorem Reverse_k {B : Nat} {w : World} {q : Option Addr} {n c : Nat} {L : List Sl} (hn : n = L.length) (h63 : (n : Int) ≤ 9223372036854775807) (ho : Own B w T_Slot 3 q n c (L.flatMap encS)) :
    FnP Try.prog F_slices_Reverse_api_Slot_api_Slot #[.slice q n c] w fun v w' => v = .tuple #[] ∧ Own B w' T_Slot 3 q n c (L.reverse.flatMap encS) ∧ Grew w w' q q := by
  refine ok_slices_Reverse_api_Slot_api_Slot q n c w _ ⟨i64 (by omega), ?_⟩
  refine ⟨fun i j w' => ∃ M : List Sl, M.length = n ∧ Own B w' T_Slot 3 q n c (M.flatMap encS) ∧ Grew w w' q q ∧ 0 ≤ i ∧ i + j = (n : Int) - 1 ∧ (∀ m : Nat, m < n → M.getD m default = if (m : Int) < i ∨ j < m then L.getD (n - 1 - m) default else L.getD m default), fun i j _ => (j - i + 1).toNat,
    ⟨L, hn.symm, ho, ⟨⟨rfl, rfl, rfl, Nat.le_refl _, fun _ _ _ => rfl⟩, .inl rfl⟩, by omega, by omega, fun m hm => by rw [if_neg (by omega)]⟩, ?_⟩
  rintro i j w3 ⟨M, hM, o3, g3, hi0, hij, hall⟩
  refine ⟨fun hlt => ?_, fun hge w4 h4 => ⟨rfl, ?_, ?_⟩⟩
  · have r3 : SlsAt w3 q M := o3.recs fun _ _ => rfl
    obtain ⟨hq, hqj, a0, a1, a2⟩ := slot_at r3 (k := j) (by omega) (by omega)
    obtain ⟨_, hqi, b0, b1, b2⟩ := slot_at r3 (k := i) hi0 (by omega)
    refine ⟨hq, by omega, by omega, hqj, _, a0, _, a1, _, a2, hq, hi0, by omega, hqi, _, b0, _, b1, _, b2, hq, hi0, by omega, ?_⟩
    refine store_slot (x := M.getD j.toNat default) o3 hi0 (by omega) fun w10 o10 g10 => ⟨hq, by omega, by omega, ?_⟩
    refine store_slot (x := M.getD i.toNat default) o10 (by omega) (by rw [List.length_set]; omega) fun w11 o11 g11 => ⟨i64 (by omega), i64 (by omega), ⟨_, by simp [hM], o11, (g3.then_ g10).then_ g11, by omega, by omega, fun m hm => ?_⟩, by simp only []; omega⟩
    have gi := hall i.toNat (by omega)
    have gj := hall j.toNat (by omega)
    rw [if_neg (by omega)] at gi gj
    rw [List.getD_eq_getElem?_getD, List.getElem?_set, List.getElem?_set]
    by_cases hmj : j.toNat = m
    · rw [if_pos hmj, if_pos (by simp; omega), if_pos (by omega)]
      show M.getD i.toNat default = _
      rw [gi]; congr 1; omega
    · rw [if_neg hmj]
      by_cases hmi : i.toNat = m
      · rw [if_pos hmi, if_pos (by omega), if_pos (by omega)]
        show M.getD j.toNat default = _
        rw [gj]; congr 1; omega
      · rw [if_neg hmi, ← List.getD_eq_getElem?_getD, hall m hm]
        by_cases hc : (m : Int) < i ∨ j < m
        · rw [if_pos hc, if_pos (by omega)]
        · rw [if_neg hc, if_neg (by omega)]
  · have hR : M = L.reverse := by
      apply List.ext_getElem?
      intro m
      by_cases hm : m < n
      · rw [getElem?_getD M default (by omega), List.getElem?_reverse (by omega), getElem?_getD L default (by omega), hall m hm]
        split
        · rw [← hn]
        · rename_i hc
          have : (m : Int) = i ∧ i = j := by omega
          rw [← hn, show n - 1 - m = m by omega]
      · rw [List.getElem?_eq_none (by omega), List.getElem?_eq_none (by rw [List.length_reverse]; omega)]
    rw [← hR]; exact o3.ext h4
  · exact ⟨⟨h4.os.trans g3.by_.os, h4.tape.trans g3.by_.tape, h4.output.trans g3.by_.output, Nat.le_trans g3.by_.size h4.size, fun k hk hb => (h4.block k (Nat.lt_of_lt_of_le hk g3.by_.size)).trans (g3.by_.block k hk hb)⟩, .inl rfl⟩
end Go.Proofs.Ytlgcnfmifkbefaa
