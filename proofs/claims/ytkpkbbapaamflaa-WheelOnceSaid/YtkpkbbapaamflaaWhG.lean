/- Acts on wheels, and the laws WheelSorted and WheelPieces. -/
import Derived.Test.YtkpkbbapaamflaaWhF
import Derived.Test.YtkpkbbapaamflaaTxtB
set_option linter.unusedVariables false
set_option linter.unusedSimpArgs false
namespace Go.Proofs.Ytkpkbbapaamflaa
open Go.Sx Go.RowKit

def encF (x : Int × Int) : List Value := [.int .i64 x.1, .int .i64 x.2]
def fr2 (x : Tm) : Int × Int := (x.t, x.id)
theorem fic_fr2 (L : List Tm) : (L.map fr2).flatMap encF = L.flatMap fic := by rw [List.flatMap_map]; rfl
theorem recF_at {w : World} {p : Option Addr} {L : List (Int × Int)} (h : Recs 2 encF w p L) {k : Int} (h0 : 0 ≤ k) (hk : k < L.length) :
    p ≠ none ∧ pIdx p k 2 ≠ none ∧ cell w (pIdx p k 2) 0 = some (.int .i64 (L.getD k.toNat (0, 0)).1) ∧ cell w (pIdx p k 2) 1 = some (.int .i64 (L.getD k.toNat (0, 0)).2) := by
  have hx : L[k.toNat]? = some (L.getD k.toNat (0, 0)) := getElem?_getD L (0, 0) (by omega)
  have hp := h.ne (List.mem_of_getElem? hx) (by simp [encF])
  exact ⟨hp, pIdx_ne hp, h.at h0 hx (j := 0) rfl, h.at h0 hx (j := 1) rfl⟩
theorem own_F {B : Nat} {w : World} {p : Option Addr} {n c : Nat} {K : List Tm} (o : Own B w T_Fire 2 p n c (K.flatMap fic)) : Recs 2 encF w p (K.map fr2) := by
  rw [← fic_fr2] at o
  exact Own.recs o fun x _ => rfl

theorem equal_k (p q : Option Addr) (c d : Nat) (L G : List (Int × Int)) (h63 : L.length ≤ 1000000) (w : World) (h : Recs 2 encF w p L) (hg : Recs 2 encF w q G) :
    FnP Try.prog F_slices_Equal_api_Fire_api_Fire #[.slice p L.length c, .slice q G.length d] w fun v w' => Ext w w' ∧ v = .bool (decide (L = G)) := by
  refine ok_slices_Equal_api_Fire_api_Fire p L.length c q G.length d w _ ⟨fun hne w0 h0 => ⟨h0, ?_⟩, fun he => ⟨fun k w' => w' = w ∧ 0 ≤ k ∧ k ≤ L.length ∧ ∀ j : Nat, (j : Int) < k → L.getD j (0, 0) = G.getD j (0, 0), fun k _ => (L.length - k).toNat, ⟨rfl, by omega, by omega, fun j hj => by omega⟩, ?_⟩⟩
  · rw [decide_eq_false]; rintro rfl; exact hne rfl
  rintro k w ⟨rfl, hk0, hk1, hno⟩
  refine ⟨fun hlt => ?_, fun hge w3 h3 => ⟨h3, ?_⟩⟩
  · obtain ⟨g1, g2, g3, g4⟩ := recF_at h hk0 hlt
    obtain ⟨f1, f2, f3, f4⟩ := recF_at hg hk0 (by omega)
    refine ⟨g1, hk0, hlt, g2, _, g3, _, g4, f1, hk0, by omega, f2, _, f3, _, f4, fun w7 h7 => run_nes (n := 2) (k := .i64) (by kernel_rfl) (by kernel_rfl) (by kernel_rfl) (by kernel_rfl) [_, _] [_, _] rfl rfl ⟨Ext.refl _, _, rfl, fun hyes w10 h10 => ⟨h10, ?_⟩, fun hn => ⟨i64 (by omega), ⟨rfl, by omega, by omega, fun j hj => ?_⟩, by simp only []; omega⟩⟩⟩
    · simp only [Bool.not_eq_true', decide_eq_false_iff_not, List.cons.injEq, and_true] at hyes
      rw [decide_eq_false]
      rintro rfl
      exact hyes ⟨rfl, rfl⟩
    · simp only [Bool.not_eq_false', decide_eq_true_eq, List.cons.injEq, and_true] at hn
      by_cases hjk : (j : Int) < k
      · exact hno j hjk
      · obtain rfl : j = k.toNat := by omega
        exact Prod.ext hn.1 hn.2
  · rw [decide_eq_true]
    apply List.ext_getElem (by omega)
    intro i h1 h2
    have := hno i (by omega)
    simpa [List.getD_eq_getElem?_getD, h1, h2] using this


/-! ### append of no slice at all -/
theorem run_app_none {P : Program} {t ty e : TypeId} {s b : Nat} {z : Value} (he : slEl P t = some (e, s, b, z)) {B : Nat} {w : World} {p : Option Addr} {n c d : Nat} {xs : List Value} {K : Value → World → Prop}
    (ho : Own B w e s p n c xs) (hk : K (.slice p n c) w) : Run P (.append #[t, t] ty [.slice p n c, .slice none 0 d]) w K := by
  obtain ⟨i, g1, g2, g3, rfl, rfl, g6⟩ := slEl_some he
  have hle := ho.le.1
  refine ⟨_, w, ?_, hk⟩
  show (Builtin.append_ #[t, t] ty #[.slice p n c, .slice none 0 d]).run P w = _
  cases p with
  | none => simp [Builtin.append_, run_underlying g1, sizeOf, typeInfo, g2, Builtin.lenOf, Builtin.firstCells, hle]
  | some a => simp [Builtin.append_, run_underlying g1, sizeOf, typeInfo, g2, Builtin.lenOf, Builtin.firstCells, hle, storeCells]

/-! ### Acts -/

structure Act where
  kind : Int
  id : Int
  prio : Int
  at' : Int
def encA (a : Act) : List Value := [.int .i64 a.kind, .int .i64 a.id, .int .i64 a.prio, .int .i64 a.at']
theorem acts_open {W : World} {l : Option Addr} {ll lc : Nat} (h : SlcArg Try.prog W T_shiftbellkeep_Act l ll lc) : ∃ L : List Act, L.length = ll ∧ (∀ a ∈ L, InR .i64 a.at') ∧ Recs 4 encA W l L := by
  obtain ⟨xs, h1, h2, h3⟩ := h.list encA (fun a => InR .i64 a.at') (fun n es hg _ => by
    have hv := leaves_ok 6 T_shiftbellkeep_Act [T_int, T_int, T_int, T_int64] n es (by kernel_rfl) hg
    obtain ⟨v1, vs, rfl, l1, hv⟩ := lvs_cons hv
    obtain ⟨v2, vs, rfl, l2, hv⟩ := lvs_cons hv
    obtain ⟨v3, vs, rfl, l3, hv⟩ := lvs_cons hv
    obtain ⟨v4, vs, rfl, l4, hv⟩ := lvs_cons hv
    obtain rfl := lvs_nil hv
    obtain ⟨a, rfl, ha⟩ := leaf_int (k := .i64) (by kernel_rfl) l1
    obtain ⟨b, rfl, hb⟩ := leaf_int (k := .i64) (by kernel_rfl) l2
    obtain ⟨c, rfl, hc⟩ := leaf_int (k := .i64) (by kernel_rfl) l3
    obtain ⟨d, rfl, hd⟩ := leaf_int (k := .i64) (by kernel_rfl) l4
    exact ⟨⟨a, b, c, d⟩, rfl, hd⟩)
  have hc : Try.prog.cellsOf T_shiftbellkeep_Act = 4 := by kernel_rfl
  exact ⟨xs, h1, h2, fun i x hx j u hu => by rw [← hc]; exact h3 i x hx j u hu⟩
theorem act_at {w : World} {p : Option Addr} {L : List Act} (h : Recs 4 encA w p L) {m : Nat} (hm : m < L.length) :
    p ≠ none ∧ pIdx p (m : Int) 4 ≠ none ∧ cell w (pIdx p (m : Int) 4) 0 = some (.int .i64 L[m].kind) ∧ cell w (pIdx p (m : Int) 4) 1 = some (.int .i64 L[m].id) ∧ cell w (pIdx p (m : Int) 4) 2 = some (.int .i64 L[m].prio) ∧ cell w (pIdx p (m : Int) 4) 3 = some (.int .i64 L[m].at') := by
  have hx : L[((m : Int)).toNat]? = some L[m] := by rw [Int.toNat_natCast]; exact List.getElem?_eq_getElem hm
  have hp := h.ne (List.mem_of_getElem? hx) (by simp [encA])
  exact ⟨hp, pIdx_ne hp, h.at (by omega) hx (j := 0) rfl, h.at (by omega) hx (j := 1) rfl, h.at (by omega) hx (j := 2) rfl, h.at (by omega) hx (j := 3) rfl⟩

/-- What an act makes of a wheel. -/
structure St where
  now : Int
  born : Int
  L : List Tm
def stp (s : St) (a : Act) : St :=
  if a.kind = 1 then ⟨s.now, (addF s.now s.born s.L a.at' a.id).2.1, (addF s.now s.born s.L a.at' a.id).2.2⟩ else if a.kind = 2 then ⟨s.now, s.born, (canF s.L a.id).2⟩ else ⟨adN s.now a.at', s.born, adL s.now s.L a.at'⟩
theorem addF_born (now born : Int) (L : List Tm) (t id : Int) : (addF now born L t id).2.1 ≤ born + 1 := by
  unfold addF; split <;> (try split) <;> (try split) <;> (try split) <;> simp only [] <;> omega
theorem adN_le (now n : Int) : adN now n ≤ now + 16777216 := by
  unfold adN; split
  · rename_i h; have h : 0 ≤ n ∧ n ≤ 16777216 := h; omega
  · omega
theorem adN_ge (now n : Int) : now ≤ adN now n := by
  unfold adN; split
  · rename_i h; have h : 0 ≤ n ∧ n ≤ 16777216 := h; omega
  · omega

/-- The state of a wheel of the call's own. -/
structure CS (W w : World) (wb : Nat) (s : St) (m : Nat) (F : Nat → Prop) : Prop where
  ws : WS W.heap.size w wb s.now s.born s.L F
  ext : Ext W w
  nb : s.now ≤ 16777216 * (m : Int)
  bb : s.born ≤ (m : Int)
theorem CS.to {W w w' : World} {wb : Nat} {s : St} {m : Nat} {F : Nat → Prop} (c : CS W w wb s m F) (e : Ext w w') : CS W w' wb s m F := ⟨c.ws.ext e, c.ext.trans e, c.nb, c.bb⟩
theorem CS.turn {W w w' : World} {wb : Nat} {s s' : St} {m : Nat} {F F' : Nat → Prop} (c : CS W w wb s m F) (h : WS W.heap.size w' wb s'.now s'.born s'.L F') (f : Fr F w w') (h1 : s'.now ≤ s.now + 16777216) (h2 : s'.born ≤ s.born + 1) : CS W w' wb s' (m + 1) F' :=
  ⟨h, f.ext c.ext fun b hb => (c.ws.fB b hb).1, by have := c.nb; omega, by have := c.bb; omega⟩

section
variable {W w : World} {wb : Nat} {s : St} {m : Nat} {F : Nat → Prop}
theorem addA_k (c : CS W w wb s m F) (hm : m ≤ 1000) {a : Act} (ha : InR .i64 a.at') (hk : a.kind = 1) :
    FnP Try.prog F_wheel_Wheel_Add #[.pointer (ptr wb), .int .i64 a.at', .int .i64 a.id] w fun v w' => v = .int .i64 (addF s.now s.born s.L a.at' a.id).1 ∧ ∃ F', CS W w' wb (stp s a) (m + 1) F' ∧ Fr F w w' ∧ ∀ b, F' b → F b ∨ w.heap.size ≤ b := by
  have hs : stp s a = ⟨s.now, (addF s.now s.born s.L a.at' a.id).2.1, (addF s.now s.born s.L a.at' a.id).2.2⟩ := by unfold stp; rw [if_pos hk]
  rw [hs]
  exact (add_k c.ws (by have := c.nb; omega) (by have := c.bb; omega) ha).mono fun v w' ⟨hv, F', h, f, g⟩ => ⟨hv, F', c.turn h f (by simp only []; omega) (addF_born ..), f, g⟩
theorem canA_k (c : CS W w wb s m F) (hm : m ≤ 1000) {a : Act} (hk : a.kind = 2) :
    FnP Try.prog F_wheel_Wheel_Cancel #[.pointer (ptr wb), .int .i64 a.id] w fun v w' => v = .int .i64 (canF s.L a.id).1 ∧ ∃ F', CS W w' wb (stp s a) (m + 1) F' ∧ Fr F w w' ∧ ∀ b, F' b → F b ∨ w.heap.size ≤ b := by
  have hs : stp s a = ⟨s.now, s.born, (canF s.L a.id).2⟩ := by unfold stp; rw [if_neg (by omega), if_pos hk]
  rw [hs]
  exact (cancel_k c.ws (by have := c.nb; omega) (by have := c.bb; omega)).mono fun v w' ⟨hv, F', h, f, g⟩ => ⟨hv, F', c.turn h f (by simp only []; omega) (by simp only []; omega), f, g⟩
theorem advB_k (c : CS W w wb s m F) (hm : m ≤ 1000) {n : Int} (ha : InR .i64 n) :
    FnP Try.prog F_wheel_Wheel_Advance #[.pointer (ptr wb), .int .i64 n] w fun v w' => ∃ p d F', v = .tuple #[.slice p (adK s.now s.L n).length d, .int .i64 (adE n)] ∧ Own w.heap.size w' T_Fire 2 p (adK s.now s.L n).length d ((adK s.now s.L n).flatMap fic) ∧
      CS W w' wb ⟨adN s.now n, s.born, adL s.now s.L n⟩ (m + 1) F' ∧ Fr F w w' ∧ (∀ b, F' b → F b ∨ w.heap.size ≤ b) ∧ ∀ a, p = some a → ¬ F' a.block := by
  exact (adv_k c.ws (by have := c.nb; omega) (by have := c.bb; omega) ha).mono fun v w' ⟨p, d, F', hv, o, h, f, g, q⟩ => ⟨p, d, F', hv, o, c.turn h f (adN_le ..) (by simp only []; omega), f, g, q⟩
theorem advA_k (c : CS W w wb s m F) (hm : m ≤ 1000) {a : Act} (ha : InR .i64 a.at') (h1 : a.kind ≠ 1) (h2 : a.kind ≠ 2) :
    FnP Try.prog F_wheel_Wheel_Advance #[.pointer (ptr wb), .int .i64 a.at'] w fun v w' => ∃ p d F', v = .tuple #[.slice p (adK s.now s.L a.at').length d, .int .i64 (adE a.at')] ∧ Own w.heap.size w' T_Fire 2 p (adK s.now s.L a.at').length d ((adK s.now s.L a.at').flatMap fic) ∧
      CS W w' wb (stp s a) (m + 1) F' ∧ Fr F w w' ∧ (∀ b, F' b → F b ∨ w.heap.size ≤ b) ∧ ∀ a, p = some a → ¬ F' a.block := by
  have hs : stp s a = ⟨adN s.now a.at', s.born, adL s.now s.L a.at'⟩ := by unfold stp; rw [if_neg h1, if_neg h2]
  rw [hs]
  exact advB_k c hm ha
theorem kept_F (c : CS W w wb s m F) {w1 w2 : World} {b0 : Nat} (hb : w.heap.size ≤ b0) (x : ExtB [] [b0] w w1) (f : Fr F w1 w2) : Kept [b0] w1 w2 :=
  f.kept fun b hb' => ⟨x.lt b hb', fun hc => by
    obtain rfl : b = b0 := by simpa using hb'
    have := (c.ws.fB b hc).2; omega⟩
end

/-! ### wheels -/

theorem wheels_k {w : World} : FnP Try.prog F_shiftbellkeep_wheels #[] w fun v w' => Ext w w' ∧ v = .bool true := by
  refine ok_shiftbellkeep_wheels w _ fun w0 h0 => newS_k.mono fun v w1 ⟨e1, wb, F, hv, hF, h⟩ => ⟨e1, _, hv, fun w3 h3 => ?_⟩
  have c : CS w w3 wb ⟨0, 0, []⟩ 0 F := ⟨(h w.heap.size h0.size).ext h3, (h0.trans e1).trans h3, by simp, by simp⟩
  refine (addA_k c (by omega) (a := ⟨1, 7, 0, 3⟩) (i64 (by decide)) rfl).mono fun v w4 ⟨hv, F4, c4, f4, g4⟩ => ⟨_, hv, fun w6 h6 => ?_⟩
  have hs : stp ⟨0, 0, []⟩ ⟨1, 7, 0, 3⟩ = ⟨0, 1, [⟨3, 7, 1⟩]⟩ := rfl
  rw [hs] at c4
  refine (nextS_k (c4.to h6).ws).mono fun v w7 ⟨e7, hv⟩ => ⟨e7, _, _, hv, fun w10 h10 => ⟨c4.ext.trans h10, ?_⟩⟩
  rfl

/-! ### WheelSorted -/

theorem K_sorted {now born : Int} {L : List Tm} (h : WOk now born L) (n : Int) {i j : Nat} (hij : i ≤ j) (hj : j < (adK now L n).length) : ((adK now L n).getD i t0).t ≤ ((adK now L n).getD j t0).t := by
  have hp : (adK now L n).Pairwise before := by
    unfold adK; split
    · exact h.sorted.filter _
    · exact List.Pairwise.nil
  by_cases he : i = j
  · subst he; exact Int.le_refl _
  · have h1 := List.pairwise_iff_getElem.1 hp i j (by omega) hj (by omega)
    rw [List.getD_eq_getElem?_getD, List.getD_eq_getElem?_getD, List.getElem?_eq_getElem hj, List.getElem?_eq_getElem (by omega)]
    unfold before at h1
    simp only [Option.getD_some]; omega
theorem K_mem {now born : Int} {L : List Tm} (hs : ∀ x ∈ L, now < x.t) (n : Int) {j : Nat} (hj : j < (adK now L n).length) : now < ((adK now L n).getD j t0).t ∧ ((adK now L n).getD j t0).t ≤ adN now n := by
  have hm : (adK now L n).getD j t0 ∈ adK now L n := by
    rw [List.getD_eq_getElem?_getD, List.getElem?_eq_getElem hj]; exact List.getElem_mem hj
  revert hm
  generalize (adK now L n).getD j t0 = x
  unfold adK adN
  split
  · intro hm
    obtain ⟨h1, h2⟩ := List.mem_filter.1 hm
    exact ⟨hs x h1, by simpa using h2⟩
  · intro hm; cases hm
theorem hd_gt {now : Int} {L : List Tm} (hs : ∀ x ∈ L, now < x.t) (hn : (!L.isEmpty) = true) : now < hdT L := by
  cases L with
  | nil => simp at hn
  | cons a l => exact hs a (List.mem_cons_self ..)

theorem core_WheelSorted (W : World) : ∀ l : Option Addr, ∀ ll : Nat, ∀ lc : Nat, SlcArg Try.prog W T_shiftbellkeep_Act l ll lc → FnP Try.prog F_shiftbellkeep_WheelSorted #[.slice l ll lc] W fun v W' => v = .bool true ∧ Ext W W' := by
  intro l ll lc hl
  obtain ⟨L0, rfl, hr, h⟩ := acts_open hl
  refine ok_shiftbellkeep_WheelSorted _ _ _ W _ fun w0 h0 => wheels_k.mono fun v w1 ⟨e1, hv⟩ => ⟨e1, true, hv, fun h => (by simp at h), fun _ => ⟨fun _ w3 h3 => ⟨rfl, h3⟩, fun hlen w3 h3 => ?_⟩⟩
  refine newS_k.mono fun v w4 ⟨e4, wb, F, hv, hF, hw⟩ => ⟨e4, _, hv, ?_⟩
  refine ⟨fun k w' => ∃ m : Nat, k = m ∧ m ≤ L0.length ∧ ∃ s F, CS W w' wb s m F, fun k _ => (L0.length - k).toNat, ⟨0, rfl, by omega, ⟨0, 0, []⟩, F, hw W.heap.size h3.size, h3.trans e4, by simp, by simp⟩, ?_⟩
  rintro k w8 ⟨m, rfl, hm, s, F, c⟩
  refine ⟨fun hlt => ?_, fun hge w9 h9 => ⟨rfl, (c.to h9).ext⟩⟩
  have hml : m < L0.length := by omega
  obtain ⟨a1, a2, a3, a4, a5, a6⟩ := act_at (h.ext c.ext) hml
  have ha := hr _ (List.getElem_mem hml)
  generalize L0[m] = a at a3 a4 a5 a6 ha
  have hstep : InR .i64 ((m : Int) + 1) := i64 (by omega)
  -- what is asked behind each act
  have tail : ∀ (w' : World) (s' : St) (F' : Nat → Prop), CS W w' wb s' (m + 1) F' → ∀ w20, Ext w' w20 → FnP Try.prog F_wheel_Wheel_Next #[.pointer (ptr wb)] w20 fun v21 w21 => Ext w20 w21 ∧ ∃ t22 : Int, ∃ t23 : Bool, v21 = .tuple #[.int .i64 t22, .bool t23] ∧
      (t23 = true → ∀ w24, Ext w' w24 → FnP Try.prog F_wheel_Wheel_Now #[.pointer (ptr wb)] w24 fun v25 w25 => Ext w24 w25 ∧ ∃ t26 : Int, v25 = .int .i64 t26 ∧ t26 < t22) := fun w' s' F' c' w20 h20 =>
    (nextS_k (c'.to h20).ws).mono fun v w21 ⟨e21, hv⟩ => ⟨e21, _, _, hv, fun hn w24 h24 => (nowS_k (c'.to h24).ws).mono fun v w25 ⟨e25, hv⟩ => ⟨e25, _, hv, hd_gt c'.ws.st hn⟩⟩
  have more : ∀ (w' : World) (s' : St) (F' : Nat → Prop), CS W w' wb s' (m + 1) F' → (∃ m' : Nat, ((m : Int) + 1) = m' ∧ m' ≤ L0.length ∧ ∃ s F, CS W w' wb s m' F) ∧ (L0.length - ((m : Int) + 1)).toNat < (L0.length - (m : Int)).toNat := fun w' s' F' c' => ⟨⟨m + 1, by omega, by omega, s', F', c'⟩, by omega⟩
  refine ⟨a1, by omega, by omega, a2, _, a3, _, a4, _, a5, _, a6, fun b hb w14 h14 => (nowS_k (c.to h14).ws).mono fun v w15 ⟨e15, hv15⟩ => ⟨e15, _, hv15, fun hk w17 x17 => ?_, fun hk1 => ⟨fun hk w17 x17 => ?_, fun hk2 w17 x17 => ?_⟩⟩⟩
  · refine (addA_k (c.to (extB_ext x17)) (by omega) ha hk).mono fun v w18 ⟨hv, F', c', f', g'⟩ => ⟨kept_F c hb x17 f', _, hv, fun w20 h20 => (tail w18 _ F' c' w20 h20).mono fun v w21 ⟨e21, t22, t23, hv, ht⟩ => ⟨e21, t22, t23, hv, fun h23 w24 h24 => (ht h23 w24 h24).mono fun v w25 ⟨e25, t26, hv, hlt⟩ => ⟨e25, t26, hv, fun hc => by omega, fun _ => ⟨hstep, more w18 _ F' c'⟩⟩, fun _ => ⟨hstep, more w18 _ F' c'⟩⟩⟩
  · refine (canA_k (c.to (extB_ext x17)) (by omega) hk).mono fun v w18 ⟨hv, F', c', f', g'⟩ => ⟨kept_F c hb x17 f', _, hv, fun w20 h20 => (tail w18 _ F' c' w20 h20).mono fun v w21 ⟨e21, t22, t23, hv, ht⟩ => ⟨e21, t22, t23, hv, fun h23 w24 h24 => (ht h23 w24 h24).mono fun v w25 ⟨e25, t26, hv, hlt⟩ => ⟨e25, t26, hv, fun hc => by omega, fun _ => ⟨hstep, more w18 _ F' c'⟩⟩, fun _ => ⟨hstep, more w18 _ F' c'⟩⟩⟩
  · refine (advA_k (c.to (extB_ext x17)) (by omega) ha hk1 hk2).mono fun v w18 ⟨p, d, F', hv, o, c', f', g', ap⟩ => ⟨kept_F c hb x17 f', _, _, _, _, hv, fun hbad => ?_, fun hok => ?_⟩
    · have hno : ¬ adOk a.at' := fun hy => hbad (by unfold adE; rw [if_pos hy])
      have hK : adK s.now s.L a.at' = [] := by unfold adK; rw [if_neg hno]
      have hN : (stp s a).now = s.now := by unfold stp; rw [if_neg hk1, if_neg hk2]; unfold adN; rw [if_neg hno]
      refine ⟨fun hpos => by rw [hK] at hpos; simp at hpos, fun _ w23 h23 => (nowS_k (c'.to h23).ws).mono fun v w24 ⟨e24, hv⟩ => ⟨e24, _, hv, fun hne => absurd hN hne, fun _ => ⟨hstep, more w18 _ F' c'⟩⟩⟩
    · have hy : adOk a.at' := by
        refine Classical.byContradiction fun hno => ?_
        unfold adE at hok; rw [if_neg hno] at hok; cases hok
      have hN : (stp s a).now = adN s.now a.at' := by unfold stp; rw [if_neg hk1, if_neg hk2]
      have hN2 : adN s.now a.at' = s.now + a.at' := by unfold adN; rw [if_pos hy]
      have hnb := c.nb
      have hn0 := c.ws.n0
      have hy' : 0 ≤ a.at' ∧ a.at' ≤ 16777216 := hy
      have rF := own_F o
      have hKL : (adK s.now s.L a.at').length ≤ 200 := by
        have := c.ws.len
        unfold adK; rw [if_pos hy]
        exact Nat.le_trans (List.length_filter_le ..) this
      have hlenK : (adK s.now s.L a.at').length = ((adK s.now s.L a.at').map fr2).length := by simp
      have hget : ∀ j : Nat, ((adK s.now s.L a.at').map fr2).getD j (0, 0) = fr2 ((adK s.now s.L a.at').getD j t0) := fun j => by
        rw [List.getD_eq_getElem?_getD, List.getD_eq_getElem?_getD, List.getElem?_map]
        cases (adK s.now s.L a.at')[j]? <;> rfl
      refine ⟨i64 (by omega), fun last k w' => w' = w18 ∧ 0 ≤ k ∧ k ≤ (adK s.now s.L a.at').length ∧ ∀ j : Nat, k ≤ j → j < (adK s.now s.L a.at').length → last ≤ ((adK s.now s.L a.at').getD j t0).t, fun _ k _ => ((adK s.now s.L a.at').length - k).toNat,
        ⟨rfl, by omega, by omega, fun j _ hj => by have := (K_mem (born := s.born) c.ws.st a.at' hj).1; omega⟩, ?_⟩
      rintro last k w26 ⟨rfl, hk0, hk1', hlast⟩
      refine ⟨fun hlt2 => ?_, fun hge2 => ⟨i64 (by omega), fun w27 h27 => (nowS_k (c'.to h27).ws).mono fun v w28 ⟨e28, hv⟩ => ⟨e28, _, hv, fun hne => absurd (hN.trans hN2) hne, fun _ w30 h30 => ?_⟩⟩⟩
      · obtain ⟨q1, q2, q3, q4⟩ := recF_at rF hk0 (by rw [← hlenK]; exact hlt2)
        rw [hget] at q3 q4
        obtain ⟨r1, r2⟩ := K_mem (born := s.born) c.ws.st a.at' (j := k.toNat) (by omega)
        have r3 := hlast k.toNat (by omega) (by omega)
        refine ⟨q1, hk0, hlt2, q2, _, q3, _, q4, fun b29 _ => ⟨fun hc => ?_, fun _ w30 h30 => (nowS_k (c'.to h30).ws).mono fun v w31 ⟨e31, hv⟩ => ⟨e31, _, hv, fun hc => ?_, fun _ => ⟨i64 (by omega), ⟨rfl, by omega, by omega, fun j hj hjl => ?_⟩, by simp only []; omega⟩⟩⟩⟩
        · simp only [fr2] at hc; omega
        · rw [hN] at hc; simp only [fr2] at hc; omega
        · exact K_sorted c.ws.ok a.at' (by omega) hjl
      · exact (tail w26 _ F' c' w30 h30).mono fun v w31 ⟨e31, t22, t23, hv, ht⟩ => ⟨e31, t22, t23, hv, fun h23 w34 h34 => (ht h23 w34 h34).mono fun v w35 ⟨e35, t26, hv, hlt⟩ => ⟨e35, t26, hv, fun hc => by omega, fun _ => ⟨hstep, more w26 _ F' c'⟩⟩, fun _ => ⟨hstep, more w26 _ F' c'⟩⟩
end Go.Proofs.Ytkpkbbapaamflaa
