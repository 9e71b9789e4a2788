/- The law GraphOrder. -/
import Derived.Test.YtopgihimdjnaeaaGraphA
set_option linter.unusedVariables false
set_option linter.unusedSimpArgs false
namespace Go.Proofs.Ytopgihimdjnaeaa
open Go.Sx Go.RowKit

/-- Where each stands: its place and one; 0: not yet. -/
def AtOf (N : Nat) (A : List Int) (k : Nat) (X : List Int) : Prop := X.length = N ∧ ∀ i : Nat, i < N → (X.getD i 0 = 0 ∧ (i : Int) ∉ A.take k) ∨ ∃ p : Nat, p < k ∧ A[p]? = some (i : Int) ∧ X.getD i 0 = p + 1

theorem core_GraphOrder (W : World) : ∀ n : Int, InR .i64 n → ∀ l : Option Addr, ∀ ll : Nat, ∀ lc : Nat, SlcArg Try.prog W T_Edge l ll lc →
    FnP Try.prog F_shiftbellkeep_GraphOrder #[.int .i64 n, .slice l ll lc] W fun v W' => v = .bool true ∧ Ext W W' := by
  intro n hn p ll lc hl
  obtain ⟨L, rfl, h63, hin, hL⟩ := edges_open hl
  refine ok_shiftbellkeep_GraphOrder _ _ _ _ W _ ?_
  intro w0 h0
  refine (graphs_k w0).mono fun v w1 ⟨e1, hv⟩ => ⟨e1, true, hv, fun h => by simp at h, fun _ w3 h3 => ?_⟩
  refine (Order_k n p lc L h63 w3 (hL.ext h3)).mono fun v w4 ⟨e4, q, m, d, e, hv, hno, ho⟩ => ⟨e4, q, m, d, e, hv, fun w9 h9 => ?_⟩
  have hx4 : Ext W w4 := h3.trans e4
  refine (Knot_k n p lc L h63 w9 (hL.ext (hx4.trans h9))).mono fun v w10 ⟨e10, kq, km, kd, hv, kno, ko⟩ => ⟨e10, kq, km, kd, _, hv, fun hne w15 h15 => ⟨b_true ?_, ((hx4.trans h9).trans e10).trans h15⟩, fun he w15 h15 => ?_⟩
  · by_cases hok : okG n L
    · rcases ho hok with ⟨he, _⟩ | ⟨rfl, rfl, i, hi, hb⟩
      · exact absurd he hne
      · have hz : ¬ km = 0 := fun h => (ko hok).1 h i hi hb
        rw [errG_ok.2 hok]
        simp; omega
    · obtain ⟨rfl, rfl⟩ := hno hok
      have h8 := errG_ne8 (n := n) (L := L)
      have h1 : errG n L ≠ 0 := fun h => hok (errG_ok.1 h)
      simp [h8, h1]
  · have hok : okG n L := by
      apply Classical.byContradiction
      intro hno'
      have := (hno hno').1
      exact hno' (errG_ok.1 (by omega))
    rcases ho hok with ⟨_, hm, A, oA, hA⟩ | ⟨h8, _⟩
    · obtain ⟨N, rfl⟩ : ∃ N : Nat, n = N := ⟨n.toNat, by have := hok.1; omega⟩
      have hN : N ≤ 60 := by have := hok.2.1; omega
      simp only [Int.toNat_natCast] at hA ko
      have hmN : m = N := by omega
      subst hmN
      have hkm : km = 0 := (ko hok).2 fun i hi => hA.noKnot hi
      have hx10 : Ext w4 w10 := h9.trans e10
      have lenA := hA.len
      refine mk_ints elem_sl_int (by omega) (by omega) (by omega) fun w16 oX e16 => ⟨e16, _, _, _, rfl, ?_⟩
      have hx16 : Ext w4 w16 := (hx10.trans h15).trans e16
      have oX := oX w4.heap.size (hx10.trans h15).size
      have hq0 : (some (⟨w15.heap.size, 0, none⟩ : Addr)) ≠ none := by simp
      have apX : Apart q (some (⟨w15.heap.size, 0, none⟩ : Addr)) := fresh_apart (oA.ext (hx10.trans h15)) (Nat.le_refl _)
      revert oX hq0 apX
      generalize (some (⟨w15.heap.size, 0, none⟩ : Addr)) = qx
      intro oX hqx apX
      simp only [Int.toNat_natCast] at oX ⊢
      have hWB : ∀ {w' : World}, Below w4.heap.size w4 w' → Ext W w' := fun h => hx4.trans (Below.mono h (Nat.le_refl _))
      refine ⟨fun k w' => ∃ X : List Int, Ext w4 w' ∧ Own w4.heap.size w' T_int 1 qx m m (X.map (.int .i64)) ∧ Own 0 w' T_int 1 q m d (A.map (.int .i64)) ∧ 0 ≤ k ∧ k ≤ m ∧ AtOf m A k.toNat X, fun k _ => (m - k).toNat,
        ⟨_, hx16, oX, (oA.weak (Nat.zero_le _)).ext hx16, by omega, by omega, by simp, fun i hi => .inl ⟨getD_replicate' _ _ _ hi, by simp⟩⟩, ?_⟩
      rintro k w22 ⟨X, hw, oX, oA, hk0, hk1, hXl, hX⟩
      have hT : ∀ {w' : World}, Ext w22 w' → Value.bool true = .bool true ∧ Ext W w' := fun h => ⟨rfl, (hx4.trans hw).trans h⟩
      refine ⟨fun hlt => ?_, fun hge => ?_⟩
      · have hget := oA.int_at hk0 (by omega)
        have hAk : A[k.toNat]? = some (A.getD k.toNat 0) := getElem?_getD A 0 (by omega)
        have hk' : (k + 1).toNat = k.toNat + 1 := by omega
        have hkk : ((k.toNat : Nat) : Int) = k := by omega
        obtain ⟨i, hi, him⟩ := hA.inn _ (List.mem_of_getElem? hAk)
        refine ⟨oA.ne1 (by omega) (by omega), hk0, hlt, _, hget, ?_⟩
        revert hAk hi
        generalize A.getD k.toNat 0 = x
        intro hAk hi
        subst hi
        have h0i : X.getD i 0 = 0 := by
          rcases hX i him with ⟨h, _⟩ | ⟨p', hp', hAp, _⟩
          · exact h
          · have := cnt_one_place (by have := hA.once i him; omega) hAp hAk; omega
        have hXi := oX.int_at (i := (i : Int)) (by omega) (by omega)
        rw [show ((i : Int)).toNat = i by simp, h0i] at hXi
        refine ⟨fun _ => hqx, fun _ => by omega, fun _ => by omega, fun h => by omega, fun _ => ⟨0, hXi, fun h => by omega, fun _ => ⟨i64 (by omega), hqx, by omega, by omega, ?_⟩⟩⟩
        refine store_int oX (by omega) (by omega) (by simp) fun w25 oX' g => ⟨i64 (by omega), ⟨_, Grew.ext g hw oX, oX', Own.grew (B' := 0) oA apX g, by omega, by omega, by simpa using hXl, fun j hj => ?_⟩, by simp only []; omega⟩
        rw [getD_set _ _ _ _ _ (by omega), show ((i : Int)).toNat = i by simp, hk']
        by_cases hji : j = i
        · subst hji; rw [if_pos rfl]
          exact .inr ⟨k.toNat, by omega, hAk, by omega⟩
        · rw [if_neg hji]
          rcases hX j hj with ⟨h, hn⟩ | ⟨p', hp', hAp, h⟩
          · refine .inl ⟨h, fun hm => ?_⟩
            obtain ⟨r, hr, hr2⟩ := mem_take hm
            by_cases hrk : r < k.toNat
            · exact hn (List.mem_iff_getElem?.2 ⟨r, by rw [List.getElem?_take_of_lt hrk]; exact hr2⟩)
            · obtain rfl : r = k.toNat := by omega
              rw [hAk] at hr2
              have := Option.some.inj hr2
              omega
          · exact .inr ⟨p', by omega, hAp, h⟩
      · obtain rfl : k = m := by omega
        simp only [Int.toNat_natCast] at hX
        refine ⟨fun k w' => w' = w22 ∧ 0 ≤ k ∧ k ≤ L.length, fun k _ => (L.length - k).toNat, ⟨rfl, by omega, by omega⟩, ?_⟩
        rintro k w25 ⟨rfl, hk0, hk1⟩
        refine ⟨fun hlt => ?_, fun hge w26 h26 => ⟨b_true ?_, (hT h26).2⟩⟩
        · obtain ⟨h1, h2, h3', h4⟩ := edges_at (hL.ext (hx4.trans hw)) hk0 hlt
          have hE := hok.2.2.2 _ (ed_mem (L := L) (i := k.toNat) (by omega))
          unfold okE at hE
          refine ⟨h1, hk0, hlt, h2, _, h3', _, h4, fun b _ => ⟨hqx, by omega, by omega, _, oX.int_at (by omega) (by omega), hqx, by omega, by omega, _, oX.int_at (by omega) (by omega), fun hle => ?_, fun _ => ⟨i64 (by omega), ⟨rfl, by omega, by omega⟩, by simp only []; omega⟩⟩⟩
          exfalso
          have pl : ∀ i : Nat, i < m → ∃ p : Nat, A[p]? = some (i : Int) ∧ X.getD i 0 = p + 1 := fun i hi => by
            rcases hX i hi with ⟨_, hn⟩ | ⟨p', _, h1, h2⟩
            · obtain ⟨p', hp', _⟩ := hA.place hi
              exact absurd (by rw [List.take_of_length_le (by omega)]; exact List.mem_of_getElem? hp') hn
            · exact ⟨p', h1, h2⟩
          obtain ⟨a, ha1, ha2⟩ := pl (ed L k.toNat).f.toNat (by omega)
          obtain ⟨b', hb1, hb2⟩ := pl (ed L k.toNat).t.toNat (by omega)
          have := hA.rise (K := 0) (.edge ⟨_, ed_mem (L := L) (i := k.toNat) (by omega), by omega, by omega⟩) ha1 hb1
          omega
        · rw [errG_ok.2 hok, hkm]; simp
    · omega
end Go.Proofs.Ytopgihimdjnaeaa
