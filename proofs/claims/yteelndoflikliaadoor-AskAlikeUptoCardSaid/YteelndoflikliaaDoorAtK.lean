/- The law AskAlike, for asks of few parts. -/
import Derived.Test.YteelndoflikliaaDoorAtG
set_option linter.unusedVariables false
set_option linter.unusedSimpArgs false
namespace Go.Proofs.YteelndoflikliaaDoor
open Go.Sx Go.RowKit

/-- Alike, told by what it means. -/
theorem AlikeS_k (x y : AT) (p q : Option Addr) (c d : Nat) (w : World) (g : GP w) (hX : IsT w x p c) (hY : IsT w y q d) (wx : WfA x) (wy : WfA y) (hN : nod x + nod y ≤ 1099511627776) :
    FnP Tryd.prog F_ask_Alike #[av x p c, av y q d] w fun v w' => Ext w w' ∧ ∃ (b : Bool) (e : Int), v = .tuple #[.bool b, .int .i64 e] ∧
      (e = 0 ↔ errC x = 0 ∧ errC y = 0 ∧ (ats y (ats x [])).length ≤ 12) ∧ (e = 0 → (b = true ↔ sem x y)) := by
  refine (Alike_k x y p q c d w g hX hY wx wy hN).mono fun v w' ⟨e1, b, e, hv, h⟩ => ⟨e1, b, e, hv, ?_⟩
  rcases h with ⟨h1, h2, h3⟩ | ⟨h1, h2, h3, h4⟩ | ⟨h1, h2, h⟩
  · exact ⟨⟨fun h => absurd (h2 ▸ h) h1, fun h => absurd h.1 h1⟩, fun h => absurd (h2 ▸ h) h1⟩
  · exact ⟨⟨fun h => absurd (h3 ▸ h) h2, fun h => absurd h.2.1 h2⟩, fun h => absurd (h3 ▸ h) h2⟩
  · rcases h with ⟨h3, h4, _⟩ | ⟨h3, h4, h5⟩
    · exact ⟨⟨fun h => by omega, fun h => by omega⟩, fun h => by omega⟩
    · refine ⟨⟨fun _ => ⟨h1, h2, h3⟩, fun _ => h4⟩, fun _ => h5.trans (sem_iff (errC_A h1) (errC_A h2) _ (fun a ha => (ats_mem y _ a).2 (.inl ((ats_mem x _ a).2 (.inr ha)))) fun a ha => (ats_mem y _ a).2 (.inr ha))⟩

theorem errC_zeroA : errC zeroA ≠ 0 := by decide

theorem law_alike (W : World) (g : GP W) (x y : AT) (p q : Option Addr) (c d : Nat) (hX : IsT W x p c) (hY : IsT W y q d) (wx : WfA x) (wy : WfA y) (nx : nod x ≤ 1048576) (ny : nod y ≤ 1048576)
    (H : Ht) (hq : Option Addr) (hd : Nat) (hl : H.labels.length ≤ 9223372036854775807) (hL : Lbs W hq H.labels) :
    FnP Tryd.prog F_shiftbellkeep_AskAlike #[av x p c, av y q d, hv H hq hd] W fun v W' => v = .bool true ∧ Ext W W' := by
  have hold : ∀ (t : AT) (p : Option Addr) (c : Nat) (w : World), Ext W w → IsT w t p c → WfA t → FnP Tryd.prog F_ask_Holds #[av t p c, hv H hq hd] w fun v w' => Ext w w' ∧ v = .tuple #[.bool (if errC t = 0 then valA (atH H) t else false), .int .i64 (errC t)] := fun t p c w hw hT hWt => Holds_k t p c H hq hd hl w hT hWt (hL.ext hw)
  -- the second half
  have half : ∀ (e : Int) (same : Bool) (w18 : World), Ext W w18 → (e = 0 → errC x = 0 ∧ errC y = 0 ∧ (ats y (ats x [])).length ≤ 12) → (e = 0 → (same = true ↔ sem x y)) →
      FnP Tryd.prog F_ask_Norm #[av x p c] w18 fun v27 w27 => Ext w18 w27 ∧ ∃ t_028 : Int, ∃ t_129 : ByteArray, ∃ t_230 : ByteArray, ∃ t_331 : Int, ∃ t_432 : Option Addr, ∃ t_4l33 : Nat, ∃ t_4c34 : Nat, ∃ t35 : Int, v27 = (.tuple #[(.agg #[(.int .i64 t_028), (.string t_129), (.string t_230), (.int .i64 t_331), (.slice t_432 t_4l33 t_4c34)]), (.int .i64 t35)]) ∧
            ∀ b36 : Nat, w27.heap.size ≤ b36 → ∀ w37, Ext w27 w37 →
            FnP Tryd.prog F_ask_Alike #[av x p c, (.agg #[(.int .i64 t_028), (.string t_129), (.string t_230), (.int .i64 t_331), (.slice t_432 t_4l33 t_4c34)])] w37 fun v38 w38 =>
             Ext w37 w38 ∧
             ∃ t39 : Bool, ∃ t40 : Int, v38 = (.tuple #[(.bool t39), (.int .i64 t40)]) ∧
             ∀ w41, Ext w27 w41 →
             FnP Tryd.prog F_ask_Alike #[av y q d, av x p c] w41 fun v42 w42 =>
              Ext w41 w42 ∧
              ∃ t43 : Bool, ∃ t44 : Int, v42 = (.tuple #[(.bool t43), (.int .i64 t44)]) ∧
              ∀ w45, Ext w27 w45 →
              (Value.bool ((((decide (t35 ≠ 0)) || (decide (t40 ≠ 0))) || t39) && ((decide (e ≠ 0)) || ((decide (t44 = 0)) && ((t43 && same) || ((!t43) && (!same)))))) = .bool true ∧ Ext W w45) := by
    intro e same w18 x18 he hs
    refine (Norm_k x p c w18 (hX.ext x18) wx).mono fun v w27 ⟨e27, n, p', c', i, hv, hI, hcase, _⟩ => ⟨e27, n.k, n.key, n.val, n.n, p', n.xs.length, c', i, hv, fun b36 _ w37 h37 => ?_⟩
    have x27 := x18.trans e27
    have hn : WfA n ∧ nod n ≤ 2 * nod x ∧ (i = 0 → sem x n) := by
      rcases hcase with ⟨h1, rfl⟩ | ⟨_, h2, rfl⟩
      · exact ⟨by unfold WfA WfL; exact ⟨i64 (by omega), by decide, by decide, i64 (by omega), by simp, trivial⟩, by simp only [nod, nodL]; cases x; simp only [nod]; omega, fun h => absurd h h1⟩
      · exact ⟨(nrm_ok (fun _ => true) x (errC_A h2) wx false).2.1, nod_nrm x (errC_A h2) false, fun _ => sem_nrm (errC_A h2) wx⟩
    refine (AlikeS_k x n p p' c c' w37 (g.ext (x27.trans h37)) (hX.ext (x27.trans h37)) (hI.ext h37) wx hn.1 (by omega)).mono fun v w38 ⟨e38, like, j, hv, _, hj⟩ => ⟨e38, like, j, hv, fun w41 h41 => ?_⟩
    refine (AlikeS_k y x q p d c w41 (g.ext (x27.trans h41)) (hY.ext (x27.trans h41)) (hX.ext (x27.trans h41)) wy wx (by omega)).mono fun v w42 ⟨e42, turn, k, hv, hk, ht⟩ => ⟨e42, turn, k, hv, fun w45 h45 => ⟨b_true ?_, x27.trans h45⟩⟩
    rw [Bool.and_eq_true]
    refine ⟨?_, ?_⟩
    · by_cases hi : i = 0
      · by_cases hj0 : j = 0
        · have : like = true := (hj hj0).2 (hn.2.2 hi)
          rw [this]; simp
        · simp [hj0]
      · simp [hi]
    · by_cases he0 : e = 0
      · obtain ⟨a1, a2, a3⟩ := he he0
        have hk0 : k = 0 := hk.2 ⟨a2, a1, by rw [ats_swap]; exact a3⟩
        have h1 := hs he0
        have h2 := ht hk0
        have : turn = same := by
          rw [Bool.eq_iff_iff, h2, h1]; exact sem_symm
        rw [this, hk0]
        cases same <;> simp
      · simp [he0]
  refine ok_shiftbellkeep_AskAlike x.k x.key x.val x.n p x.xs.length c y.k y.key y.val y.n q y.xs.length d H.name hq H.labels.length hd H.has.c H.has.m H.has.g H.used.c H.used.m H.used.g W _ fun b0 _ b1 _ b2 _ w3 x3 => (asks_k w3).mono fun v w4 ⟨e4, hv⟩ => ⟨e4, true, hv, (fun h => by cases h), fun _ w6 x6 => ?_⟩
  refine (AlikeS_k x y p q c d w6 (g.ext x6) (hX.ext x6) (hY.ext x6) wx wy (by omega)).mono fun v w7 ⟨e7, same, e, hv, he, hs⟩ => ⟨e7, same, e, hv, fun w10 x10 => ?_⟩
  refine (hold x p c w10 x10 (hX.ext x10) wx).mono fun v w11 ⟨e11, hv⟩ => ⟨e11, _, _, hv, fun w14 x14 => ?_⟩
  refine (hold y q d w14 x14 (hY.ext x14) wy).mono fun v w15 ⟨e15, hv⟩ => ⟨e15, _, _, hv, fun h0 w18 x18 => ?_, fun hn w18 x18 => half e same w18 (extB_ext x18) he.1 hs⟩
  obtain ⟨a1, a2, a3⟩ := he.1 h0
  refine good_lit (n := 2) [errC x, errC y] rfl rfl (by omega) (by omega) (fun w19 e19 => ⟨fun hbad w26 h26 => ?_, fun _ w26 h26 => half e same w26 (e19.trans (extB_ext h26)) he.1 hs⟩) w18 (extB_ext x18)
  exfalso
  rcases hbad with h | ⟨h, hdiff⟩
  · simp [a1, a2] at h
  · have := host_sem (errC_A a1) (errC_A a2) ((hs h0).1 h) H
    rw [if_pos a1, if_pos a2, this] at hdiff
    rcases hdiff with ⟨h1, h2⟩ | ⟨h1, h2⟩
    · rw [h1] at h2; cases h2
    · rw [h1] at h2; cases h2
end Go.Proofs.YteelndoflikliaaDoor
