/- The law GraphTurn. -/
import Derived.Test.YtopgihimdjnaeaaDoorGraphZ
set_option linter.unusedVariables false
set_option linter.unusedSimpArgs false
namespace Go.Proofs.YtopgihimdjnaeaaDoor
open Go.Sx Go.RowKit
variable {P : Program}

/-- The edge turned round. -/
def mir (e : E) : E := ⟨e.t, e.f⟩
theorem mir_mir (L : List E) : (L.map mir).map mir = L := by
  rw [List.map_map]
  have : (mir ∘ mir) = id := by funext e; cases e; rfl
  rw [this]; simp
theorem okE_mir {n : Int} {e : E} : okE n (mir e) ↔ okE n e := by
  unfold okE mir; simp only; constructor <;> intro h <;> exact ⟨h.2.2.1, h.2.2.2, h.1, h.2.1⟩
theorem okA_mir {n : Int} {L : List E} : (∀ e ∈ L.map mir, okE n e) ↔ ∀ e ∈ L, okE n e := by
  simp only [List.mem_map, forall_exists_index, and_imp, forall_apply_eq_imp_iff₂, okE_mir]
theorem okG_mir {n : Int} {L : List E} : okG n (L.map mir) ↔ okG n L := by
  unfold okG; rw [okA_mir, List.length_map]
theorem errG_mir {n : Int} {L : List E} : errG n (L.map mir) = errG n L := by
  unfold errG
  simp only [List.length_map]
  split
  · rfl
  · split
    · rfl
    · by_cases hL : ∀ e ∈ L, okE n e
      · rw [if_pos (okA_mir.2 hL), if_pos hL]
      · rw [if_neg (fun h => hL (okA_mir.1 h)), if_neg hL]
theorem beh_mir1 {n : Nat} {L : List E} {i j : Nat} (h : Beh L n i j) : Beh (L.map mir) n j i := by
  induction h with
  | edge h =>
    obtain ⟨e, he, h1, h2⟩ := h
    exact .edge ⟨mir e, List.mem_map.2 ⟨e, he, rfl⟩, h2, h1⟩
  | mid _ _ hk a b => exact .mid b a hk
theorem beh_mir {n : Nat} {L : List E} {i j : Nat} : Beh (L.map mir) n j i ↔ Beh L n i j :=
  ⟨fun h => by have := beh_mir1 h; rwa [mir_mir] at this, beh_mir1⟩

theorem push_recB {t ty e : TypeId} {z : Value} {s b : Nat} (he : slEl P t = some (e, s, b, z)) (hs : 0 < s) {B : Nat} {w : World} {p : Option Addr} {n c : Nat} {xs : List Value} {v : Value} {ns : List Nat}
    {K : Option Addr → Nat → Nat → World → Prop} (ho : Own B w e s p n c xs) (hB : B ≤ w.heap.size) (hv : v.cells.size = s) (h1 : ∀ u ∈ v.cells.toList, u.oneCell' = true) (hns : ∀ b ∈ ns, ∀ x, p = some x → x.block ≠ b) (hb : (n + 1) * b ≤ 140737488355328) (h24 : s ≤ 16777216) (hm : n + 1 ≤ 9223372036854775807)
    (hk : ∀ p' c' w', Own B w' e s p' (n + 1) c' (xs ++ v.cells.toList) → Grew w w' p p' → p' ≠ none → K p' (n + 1) c' w') :
    ∀ w1, ExtB [] ns w w1 → Run P (.buildSlice t 1 [(0, v)]) w1 fun v2 w2 => Ext w1 w2 ∧ ∃ q : Option Addr, ∃ m : Nat, ∃ d : Nat, v2 = .slice q m d ∧ ∀ w3, ExtB [] ns w2 w3 →
      Run P (.append #[t, t] ty [.slice p n c, .slice q m d]) w3 fun v4 w4 => Kept ns w3 w4 ∧ ∃ q' : Option Addr, ∃ m' : Nat, ∃ d' : Nat, v4 = .slice q' m' d' ∧ K q' m' d' w4 := by
  intro w1 x1
  have e1 := extB_ext x1
  refine run_lit he [v] rfl rfl (fun u hu => by simp at hu; subst hu; exact hv) (by omega) (by omega) fun w2 o2 e2 => ⟨e2, _, _, _, rfl, fun w3 x3 => ?_⟩
  have e3 := extB_ext x3
  have o2 := (o2 w1.heap.size (Nat.le_refl _)).ext e3
  have ho' := ((ho.ext e1).ext e2).ext e3
  have hsz : B ≤ w3.heap.size := Nat.le_trans hB (Nat.le_trans e1.size (Nat.le_trans e2.size e3.size))
  refine run_app he hs ho' hsz (by simp) (news := v.cells.toList) (by simp [hv]) (by simpa using o2.cells) h1 hb hm fun p' c' w4 h2 h3 h4 => ⟨fun b hb => ?_, _, _, _, rfl, hk p' c' w4 h2 ?_ ?_⟩
  · refine h3.by_.block b (x3.lt b hb) fun he => ?_
    cases p with
    | none => cases he
    | some y => simp [blk] at he; exact hns b hb y rfl he.symm
  · exact Grew.of_ext e1 (Grew.of_ext e2 (Grew.of_ext e3 h3))
  · intro hn; have := h4.1 hn; omega

theorem core_GraphTurn (W : World) (hg : GL W) : ∀ n : Int, InR .i64 n → ∀ l : Option Addr, ∀ ll : Nat, ∀ lc : Nat, SlcArg Tryd.prog W T_Edge l ll lc → ll * 16 ≤ 140737488351232 → ∀ i : Int, InR .i64 i → ∀ k : Int, InR .i64 k →
    FnP Tryd.prog F_shiftbellkeep_GraphTurn #[.int .i64 n, .slice l ll lc, .int .i64 i, .int .i64 k] W fun v W' => v = .bool true ∧ Ext W W' := by
  intro n hn p ll lc hl hbulk i hi k hk
  have hll := hl.le
  have hlm := hl.max
  obtain ⟨L, rfl, h63, hin, hL⟩ := edges_open hl
  refine ok_shiftbellkeep_GraphTurn _ _ _ _ _ _ W _ ?_
  intro w0 h0
  refine (graphs_k w0).mono fun v w1 ⟨e1, hv⟩ => ⟨e1, true, hv, fun h => by simp at h, fun _ => ?_⟩
  refine ⟨fun m ml mc j w' => Ext W w' ∧ 0 ≤ j ∧ j ≤ L.length ∧ (ml : Int) = j ∧ Own W.heap.size w' T_Edge 2 m ml mc (((L.take j.toNat).map mir).flatMap encE), fun _ _ _ j _ => (L.length - j).toNat, ⟨Ext.refl _, by omega, by omega, by omega, by simpa using Own.nil⟩, ?_⟩
  rintro m ml mc j w6 ⟨hx6, hj0, hj1, hml, oM⟩
  refine ⟨fun hlt => ?_, fun hge w7 h7 => ?_⟩
  · obtain ⟨g1, g2, g3, g4⟩ := edges_at (hL.ext hx6) hj0 hlt
    refine ⟨g1, hj0, hlt, g2, _, g3, _, g4, fun b9 hb9 => ?_⟩
    refine push_recB elem_sl_Edge (by omega) oM hx6.size (by rfl) (by intro u hu; simp [Value.cells] at hu; rcases hu with rfl | rfl <;> rfl) (fun b hb x hx => by simp at hb; subst hb; have := (oM.lt x hx).2; omega) (by omega) (by omega) (by omega) fun p' c' w' o' g hne => ⟨i64 (by omega), ⟨g.ext hx6 oM, by omega, by omega, by omega, ?_⟩, by simp only []; omega⟩
    rw [show (j + 1).toNat = j.toNat + 1 by omega, List.take_add_one, getElem?_getD L default (by omega)]
    simpa [encE, mir, ed, Value.cells] using o'
  · obtain rfl : j = L.length := by omega
    have hM : Edges w6 m (L.map mir) := by
      have := Own.recs (xs := L.map mir) (enc := encE) (by simpa using oM) (by intro x hx; rfl)
      exact this
    obtain rfl : ml = (L.map mir).length := by simp; omega
    have hx7 := hx6.trans h7
    have h63' : ((L.map mir).length : Int) ≤ 9223372036854775807 := by simpa using h63
    refine (Order_k n p lc L h63 w7 (hL.ext hx7)).mono fun v w8 ⟨e8, q, a, b, e, hv, ho1, ho2⟩ => ⟨e8, q, a, b, e, hv, fun w13 h13 => ?_⟩
    have hx13 := (hx7.trans e8).trans h13
    have h6_13 := (h7.trans e8).trans h13
    refine (Order_k n m mc (L.map mir) h63' w13 (hM.ext h6_13)).mono fun v w14 ⟨e14, q2, a2, b2, f, hv, hp1, hp2⟩ => ⟨e14, q2, a2, b2, f, hv, fun w19 h19 => ?_⟩
    have hx19 := (hx13.trans e14).trans h19
    have h6_19 := (h6_13.trans e14).trans h19
    have hef : e = f := by
      by_cases hok : okG n L
      · have noK : ∀ {L' : List E} {A : List Int}, Topo n.toNat L' A → ¬ ∃ i, i < n.toNat ∧ Beh L' n.toNat i i := fun hA ⟨i, hi, hk⟩ => hA.noKnot hi hk
        rcases ho2 hok with ⟨rfl, _, A, _, hA⟩ | ⟨rfl, _, i, hi, hk⟩
        · rcases hp2 (okG_mir.2 hok) with ⟨rfl, _⟩ | ⟨rfl, _, i, hi, hk⟩
          · rfl
          · exact absurd ⟨i, hi, beh_mir.1 hk⟩ (noK hA)
        · rcases hp2 (okG_mir.2 hok) with ⟨rfl, _, A, _, hA⟩ | ⟨rfl, _⟩
          · exact absurd ⟨i, hi, beh_mir.2 hk⟩ (noK hA)
          · rfl
      · rw [(ho1 hok).1, (hp1 (fun h => hok (okG_mir.1 h))).1, errG_mir]
    refine (Reach_k n p lc L h63 i w19 (hL.ext hx19) (hg.ext hx19)).mono fun v w20 ⟨e20, q3, a3, b3, g, hv, _, hr1⟩ => ⟨e20, q3, a3, b3, g, hv, fun w25 h25 => ?_⟩
    have hx25 := (hx19.trans e20).trans h25
    have h6_25 := (h6_19.trans e20).trans h25
    refine (Reach_k n m mc (L.map mir) h63' k w25 (hM.ext h6_25) (hg.ext hx25)).mono fun v w26 ⟨e26, q4, a4, b4, h, hv, _, hr2⟩ => ⟨e26, q4, a4, b4, h, hv, fun _ => ?_, fun hne => absurd hef hne⟩
    have hx26 := hx25.trans e26
    refine good_lit (w := w26) [g, h] rfl rfl (by simp) (by simp) fun w32 h32 => ⟨fun _ w39 h39 => ⟨rfl, (hx26.trans h32).trans h39⟩, fun hgd w39 h39 => ?_⟩
    simp at hgd
    obtain ⟨rfl, rfl⟩ := hgd
    obtain ⟨_, hi0, hi1, X, oX, hX0, hX⟩ := hr1 rfl
    obtain ⟨_, hk0, hk1, Y, oY, hY0, hY⟩ := hr2 rfl
    have lX := oX.leni
    have lY := oY.leni
    subst lX lY
    have mX := oX.le
    have mY := oY.le
    have h20_39 := ((h25.trans e26).trans h32).trans h39
    refine (ContainsI_k q3 b3 X (by omega) k w39 (oX.ext h20_39).cells).mono fun v w40 ⟨e40, hv⟩ => ⟨e40, _, hv, fun w42 h42 => ?_⟩
    have h26_42 := h32.trans h42
    refine (ContainsI_k q4 b4 Y (by omega) i w42 (oY.ext h26_42).cells).mono fun v w43 ⟨e43, hv⟩ => ⟨e43, _, hv, fun w45 h45 => ⟨b_true ?_, (hx26.trans h32).trans h45⟩⟩
    have hXk := hX k.toNat
    have hYi := hY i.toNat
    rw [Int.toNat_of_nonneg hk0] at hXk
    rw [Int.toNat_of_nonneg hi0] at hYi
    have hiff : k ∈ X ↔ i ∈ Y := by rw [hXk, hYi]; exact beh_mir.symm
    by_cases hc : k ∈ X
    · simp [hc, hiff.1 hc]
    · have : i ∉ Y := fun h => hc (hiff.2 h)
      simp [hc, this]
end Go.Proofs.YtopgihimdjnaeaaDoor
