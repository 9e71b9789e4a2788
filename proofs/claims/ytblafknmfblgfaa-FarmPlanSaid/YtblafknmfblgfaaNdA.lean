/- Needs: what package need answers. -/
import Derived.Test.YtblafknmfblgfaaGood
import Derived.Test.YtblafknmfblgfaaSxR
set_option linter.unusedVariables false
set_option linter.unusedSimpArgs false
namespace Go.Proofs.Ytblafknmfblgfaa
open Go.Sx Go.RowKit

/-- How much of what. -/
structure Nd where
  c : Int
  m : Int
  g : Int
deriving DecidableEq, Inhabited
abbrev encN (x : Nd) : List Value := [.int .i64 x.c, .int .i64 x.m, .int .i64 x.g]
abbrev nv (x : Nd) : Value := .agg #[.int .i64 x.c, .int .i64 x.m, .int .i64 x.g]
def okN (x : Nd) : Prop := (0 ≤ x.c ∧ x.c ≤ 1099511627776) ∧ (0 ≤ x.m ∧ x.m ≤ 1099511627776) ∧ (0 ≤ x.g ∧ x.g ≤ 1099511627776)
instance (x : Nd) : Decidable (okN x) := by unfold okN; infer_instance
def fitN (a b : Nd) : Prop := a.c ≤ b.c ∧ a.m ≤ b.m ∧ a.g ≤ b.g
instance (a b : Nd) : Decidable (fitN a b) := by unfold fitN; infer_instance
def addN (a b : Nd) : Nd := ⟨a.c + b.c, a.m + b.m, a.g + b.g⟩
def subN (a b : Nd) : Nd := ⟨a.c - b.c, a.m - b.m, a.g - b.g⟩
def zeroN : Nd := ⟨0, 0, 0⟩
def errN (x : Nd) : Int := if okN x then 0 else 4
theorem errN_ok {x : Nd} : errN x = 0 ↔ okN x := by unfold errN; split <;> simp_all
theorem errN_no {x : Nd} (h : ¬ okN x) : errN x = 4 := if_neg h
theorem nd_eq {a b : Nd} : a = b ↔ [a.c, a.m, a.g] = [b.c, b.m, b.g] := by cases a; cases b; simp
/-- The need's part by its number. -/
def ndAt (x : Nd) (i : Nat) : Int := match i with | 0 => x.c | 1 => x.m | _ => x.g
theorem okN_at {x : Nd} : okN x ↔ ∀ i, i < 3 → 0 ≤ ndAt x i ∧ ndAt x i ≤ 1099511627776 := by
  constructor
  · rintro ⟨h1, h2, h3⟩ i hi
    match i, hi with
    | 0, _ => exact h1
    | 1, _ => exact h2
    | 2, _ => exact h3
  · intro h
    exact ⟨h 0 (by omega), h 1 (by omega), h 2 (by omega)⟩

theorem eqN_k {a b : Nd} {w : World} {K : Value → World → Prop} (hk : K (.bool (decide (a = b))) w) : Run Try.prog (.eq .eql T_Need false false (nv a) (nv b)) w K :=
  run_eqs (n := 3) (k := .i64) (by kernel_rfl) (by kernel_rfl) (by kernel_rfl) (by kernel_rfl) [a.c, a.m, a.g] [b.c, b.m, b.g] rfl rfl (by
    have : decide (a = b) = decide ([a.c, a.m, a.g] = [b.c, b.m, b.g]) := decide_eq_decide.2 nd_eq
    rwa [this] at hk)

/-- The parts: where each lies. -/
def partsAt (w : World) (q a : Option Addr) : Prop := ∀ k : Int, 0 ≤ k → k < 3 → ∃ s, Go.Sx.cell w (pIdx q k 2) 0 = some (.string s) ∧ Go.Sx.cell w (pIdx q k 2) 1 = some (.pointer (pAdd a k.toNat))
theorem partsAt.ext {w w' : World} {q a : Option Addr} (h : partsAt w q a) (he : Ext w w') : partsAt w' q a := fun k h0 h1 => by
  obtain ⟨s, c1, c2⟩ := h k h0 h1
  exact ⟨s, ext_cell he c1, ext_cell he c2⟩

theorem parts_k (a : Option Addr) (ha : a ≠ none) (w : World) : FnP Try.prog F_need_parts #[.pointer a] w fun v w' => Ext w w' ∧ ∃ q, v = .slice q 3 3 ∧ partsAt w' q a := by
  refine ok_need_parts a w _ ⟨ha, ha, ha, ha, ha, ha, fun w0 h0 => ?_⟩
  refine run_lit elem_sl_need_part [_, _, _] rfl rfl (by intro v hv; simp at hv; rcases hv with rfl | rfl | rfl <;> rfl) (by omega) (by omega) fun w1 o1 e1 => ⟨e1, _, _, _, rfl, fun w5 h5 => ⟨(h0.trans e1).trans h5, _, rfl, ?_⟩⟩
  have o5 := ((o1 0 (Nat.zero_le _)).ext h5).cells
  intro k k0 k3
  have hk : k = 0 ∨ k = 1 ∨ k = 2 := by omega
  rcases hk with rfl | rfl | rfl
  · exact ⟨_, by rw [cell_pIdx]; exact o5 0 _ rfl, by rw [cell_pIdx]; exact o5 1 _ rfl⟩
  · exact ⟨_, by rw [cell_pIdx]; exact o5 2 _ rfl, by rw [cell_pIdx]; exact o5 3 _ rfl⟩
  · exact ⟨_, by rw [cell_pIdx]; exact o5 4 _ rfl, by rw [cell_pIdx]; exact o5 5 _ rfl⟩

/-- A need in memory. -/
abbrev NdAt (w : World) (p : Option Addr) (x : Nd) : Prop := Cells w p (encN x)
theorem nd_at {w : World} {p : Option Addr} {x : Nd} (h : NdAt w p x) {i : Nat} (hi : i < 3) : Go.Sx.cell w (pAdd p i) 0 = some (.int .i64 (ndAt x i)) := by
  rw [cell_pAdd, Nat.add_zero]
  match i, hi with
  | 0, _ => exact h 0 _ rfl
  | 1, _ => exact h 1 _ rfl
  | 2, _ => exact h 2 _ rfl

theorem new_nd {w : World} {x : Nd} {K : Option Addr → World → Prop} (h : ∀ p w', Ext w w' → NdAt w' p x → p ≠ none → K p w') : New w T_Need (encN x) K :=
  new_own (by intro v hv; simp at hv; rcases hv with rfl | rfl | rfl <;> rfl) fun w' o e => h _ w' e (o 0 (Nat.zero_le _)).cells (by simp)

theorem ncheck_k (x : Nd) (w : World) : FnP Try.prog F_need_Check #[nv x] w fun v w' => Ext w w' ∧ v = .int .i64 (errN x) := by
  refine ok_need_Check x.c x.m x.g w _ fun w0 h0 => ?_
  refine new_nd fun p1 w1 e1 c1 n1 => fun w2 h2 => ?_
  refine (parts_k p1 n1 w2).mono fun v w3 ⟨e3, q, hv, hq⟩ => ⟨e3, q, 3, 3, hv, ?_⟩
  have c3 := (c1.ext h2).ext e3
  have x3 := ((h0.trans e1).trans h2).trans e3
  refine ⟨fun k w' => w' = w3 ∧ 0 ≤ k ∧ k ≤ 3 ∧ ∀ i : Nat, (i : Int) < k → 0 ≤ ndAt x i ∧ ndAt x i ≤ 1099511627776, fun k _ => (3 - k).toNat, ⟨rfl, by omega, by omega, fun i hi => by omega⟩, ?_⟩
  rintro k w3 ⟨rfl, hk0, hk1, hall⟩
  refine ⟨fun hlt => ?_, fun hge w10 h10 => ⟨x3.trans h10, ?_⟩⟩
  · obtain ⟨s, d1, d2⟩ := hq k hk0 hlt
    have ci := nd_at c3 (i := k.toNat) (by omega)
    have hne : pAdd p1 k.toNat ≠ none := fun h => n1 (pAdd_none.1 h)
    have bad : ¬ (0 ≤ ndAt x k.toNat ∧ ndAt x k.toNat ≤ 1099511627776) → errN x = 4 := fun h => errN_no fun ho => h (okN_at.1 ho _ (by omega))
    refine ⟨fun hq => cell_p d1 (pIdx_none.2 hq), hk0, hlt, cell_p d1, s, d1, _, d2, fun b12 _ => ⟨hne, _, ci, fun _ => hne, fun hn w14 h14 => ⟨x3.trans h14, by rw [bad (by omega)]⟩, fun hp => ⟨_, ci, fun hb w15 h15 => ⟨x3.trans h15, by rw [bad (by omega)]⟩, fun hl => ⟨i64 (by omega), ⟨rfl, by omega, by omega, fun i hi => ?_⟩, by simp only []; omega⟩⟩⟩⟩
    by_cases hik : (i : Int) < k
    · exact hall i hik
    · obtain rfl : i = k.toNat := by omega
      omega
  · rw [errN_ok.2 (okN_at.2 fun i hi => hall i (by omega))]

abbrev NdsAt (w : World) (p : Option Addr) (L : List Nd) : Prop := Recs 3 encN w p L

def errNs (L : List Nd) : Int := if ∀ x ∈ L, okN x then 0 else 4
theorem errNs_ok {L : List Nd} : errNs L = 0 ↔ ∀ x ∈ L, okN x := by unfold errNs; split <;> simp_all

theorem nchecks_k (p : Option Addr) (c : Nat) (L : List Nd) (h63 : (L.length : Int) ≤ 9223372036854775807) (w : World) (h : NdsAt w p L) : FnP Try.prog F_need_checks #[.slice p L.length c] w fun v w' => Ext w w' ∧ v = .int .i64 (errNs L) := by
  refine ok_need_checks p L.length c w _ ⟨fun k w' => w' = w ∧ 0 ≤ k ∧ k ≤ L.length ∧ ∀ i : Nat, (i : Int) < k → okN (L.getD i default), fun k _ => (L.length - k).toNat, ⟨rfl, by omega, by omega, fun i hi => by omega⟩, ?_⟩
  rintro k w ⟨rfl, hk0, hk1, hall⟩
  refine ⟨fun hlt => ?_, fun hge w3 h3 => ⟨h3, ?_⟩⟩
  · have g0 := h.idx default hk0 hlt (j := 0) rfl
    have g1 := h.idx default hk0 hlt (j := 1) rfl
    have g2 := h.idx default hk0 hlt (j := 2) rfl
    refine ⟨fun hq => cell_p g0 (pIdx_none.2 hq), hk0, hlt, cell_p g0, _, g0, _, g1, _, g2, fun b6 _ => fun w7 h7 => ?_⟩
    refine (ncheck_k (L.getD k.toNat default) w7).mono fun v w8 ⟨e8, hv⟩ => ⟨e8, _, hv, fun hne w10 h10 => ⟨h10, ?_⟩, fun he => ⟨i64 (by omega), ⟨rfl, by omega, by omega, fun i hi => ?_⟩, by simp only []; omega⟩⟩
    · have hno : ¬ okN (L.getD k.toNat default) := fun h => hne (errN_ok.2 h)
      rw [errN_no hno]
      congr 1
      exact (if_neg fun hx => hno (hx _ (getD_mem L default (by omega)))).symm
    · by_cases hik : (i : Int) < k
      · exact hall i hik
      · obtain rfl : i = k.toNat := by omega
        exact errN_ok.1 he
  · congr 1
    refine (errNs_ok.2 fun x hx => ?_).symm
    obtain ⟨i, hi, rfl⟩ := List.getElem_of_mem hx
    have := hall i (by omega)
    simpa [List.getD_eq_getElem?_getD, hi] using this

/-- checks(a, b), with the tracked blocks about. -/
theorem nchecks2 (a b : Nd) {ns : List Nat} {w : World} {K : Int → World → Prop} (hk : ∀ w', Ext w w' → K (if okN a ∧ okN b then 0 else 4) w') :
    ∀ w3, ExtB [] ns w w3 → Run Try.prog (.buildSlice T_sl_Need 2 [(0, nv a), (1, nv b)]) w3 fun v4 w4 => Ext w3 w4 ∧ ∃ t5 : Option Addr, ∃ tl6 : Nat, ∃ tc7 : Nat, v4 = .slice t5 tl6 tc7 ∧
      ∀ w8, Ext w4 w8 → FnP Try.prog F_need_checks #[.slice t5 tl6 tc7] w8 fun v9 w9 => Ext w8 w9 ∧ ∃ t10 : Int, v9 = .int .i64 t10 ∧ K t10 w4 := by
  intro w3 x3
  refine run_lit elem_sl_Need [nv a, nv b] rfl rfl (by intro v hv; simp at hv; rcases hv with rfl | rfl <;> rfl) (by omega) (by omega) fun w4 o4 e4 => ⟨e4, _, _, _, rfl, fun w8 h8 => ?_⟩
  have o8 := (o4 0 (Nat.zero_le _)).ext h8
  have hL : NdsAt w8 (some ⟨w3.heap.size, 0, none⟩) [a, b] := Own.recs (enc := encN) (xs := [a, b]) o8 fun _ _ => rfl
  refine (nchecks_k _ 2 [a, b] (by simp) w8 hL).mono fun v w9 ⟨e9, hv⟩ => ⟨e9, _, hv, ?_⟩
  have : errNs [a, b] = if okN a ∧ okN b then 0 else 4 := by
    unfold errNs; simp
  rw [this]
  exact hk w4 ((extB_ext x3).trans e4)

theorem nfits_k (a b : Nd) (w : World) : FnP Try.prog F_need_fits #[nv a, nv b] w fun v w' => Ext w w' ∧ v = .bool (decide (fitN a b)) := by
  refine ok_need_fits a.c a.m a.g b.c b.m b.g w _ fun b0 _ b1 _ w2 h2 => ⟨h2, ?_⟩
  congr 1
  unfold fitN
  by_cases h1 : a.c ≤ b.c <;> by_cases h2 : a.m ≤ b.m <;> by_cases h3 : a.g ≤ b.g <;> simp [h1, h2, h3]

theorem nFits_k (a b : Nd) (w : World) : FnP Try.prog F_need_Fits #[nv a, nv b] w fun v w' => Ext w w' ∧ ∃ t e, v = .tuple #[.bool t, .int .i64 e] ∧ ((okN a ∧ okN b ∧ e = 0 ∧ t = decide (fitN a b)) ∨ (¬ (okN a ∧ okN b) ∧ e = 4 ∧ t = false)) := by
  refine ok_need_Fits a.c a.m a.g b.c b.m b.g w _ fun b0 hb0 b1 hb1 => ?_
  refine nchecks2 a b fun w3 e3 => ?_
  by_cases hok : okN a ∧ okN b
  · rw [if_pos hok]
    refine ⟨fun h => absurd rfl h, fun _ w10 h10 => (nfits_k a b w10).mono fun v w11 ⟨e11, hv⟩ => ⟨e11, _, hv, fun w13 h13 => ⟨e3.trans h13, _, _, rfl, .inl ⟨hok.1, hok.2, rfl, rfl⟩⟩⟩⟩
  · rw [if_neg hok]
    exact ⟨fun _ w10 h10 => ⟨e3.trans h10, _, _, rfl, .inr ⟨hok, rfl, rfl⟩⟩, fun h => by omega⟩

theorem extB1 {b : Nat} {w0 w w' : World} (h : ExtB [b] [] w w') (he : Ext w0 w) (hb : w0.heap.size ≤ b) : Ext w0 w' := but_ext h he (by intro d hd; simp at hd; omega)

theorem nAdd_k (a b : Nd) (w : World) : FnP Try.prog F_need_Add #[nv a, nv b] w fun v w' => Ext w w' ∧ ∃ s e, v = .tuple #[nv s, .int .i64 e] ∧
    ((okN a ∧ okN b ∧ okN (addN a b) ∧ e = 0 ∧ s = addN a b) ∨ (¬ (okN a ∧ okN b) ∧ e = 4 ∧ s = zeroN) ∨ (okN a ∧ okN b ∧ ¬ okN (addN a b) ∧ e = 2 ∧ s = zeroN)) := by
  refine ok_need_Add a.c a.m a.g b.c b.m b.g w _ fun b0 hb0 b1 hb1 b2 hb2 => ?_
  refine nchecks2 a b fun w4 e4 => ?_
  by_cases hok : okN a ∧ okN b
  · rw [if_pos hok]
    obtain ⟨⟨a1, a2, a3⟩, ⟨c1, c2, c3⟩⟩ := id hok
    refine ⟨fun h => absurd rfl h, fun _ => ⟨i64 (by omega), i64 (by omega), i64 (by omega), fun b11 _ w12 h12 => ?_⟩⟩
    refine (ncheck_k (addN a b) w12).mono fun v w13 ⟨e13, hv⟩ => ⟨e13, _, hv, fun hne w15 x15 => ⟨extB1 x15 e4 hb2, zeroN, _, rfl, .inr (.inr ⟨hok.1, hok.2, fun h => hne (errN_ok.2 h), rfl, rfl⟩)⟩, fun he w15 x15 => ⟨extB1 x15 e4 hb2, addN a b, _, rfl, .inl ⟨hok.1, hok.2, errN_ok.1 he, rfl, rfl⟩⟩⟩
  · rw [if_neg hok]
    exact ⟨fun _ w11 x11 => ⟨extB1 x11 e4 hb2, zeroN, _, rfl, .inr (.inl ⟨hok, rfl, rfl⟩)⟩, fun h => by omega⟩

theorem nSub_k (a b : Nd) (w : World) : FnP Try.prog F_need_Sub #[nv a, nv b] w fun v w' => Ext w w' ∧ ∃ s e, v = .tuple #[nv s, .int .i64 e] ∧
    ((okN a ∧ okN b ∧ fitN b a ∧ e = 0 ∧ s = subN a b) ∨ (¬ (okN a ∧ okN b) ∧ e = 4 ∧ s = zeroN) ∨ (okN a ∧ okN b ∧ ¬ fitN b a ∧ e = 10 ∧ s = zeroN)) := by
  refine ok_need_Sub a.c a.m a.g b.c b.m b.g w _ fun b0 hb0 b1 hb1 b2 hb2 => ?_
  refine nchecks2 a b fun w4 e4 => ?_
  by_cases hok : okN a ∧ okN b
  · rw [if_pos hok]
    obtain ⟨⟨a1, a2, a3⟩, ⟨c1, c2, c3⟩⟩ := id hok
    refine ⟨fun h => absurd rfl h, fun _ w11 h11 => ?_⟩
    refine (nfits_k b a w11).mono fun v w12 ⟨e12, hv⟩ => ⟨e12, _, hv, fun hf w14 x14 => ⟨extB1 x14 e4 hb2, zeroN, _, rfl, .inr (.inr ⟨hok.1, hok.2, by simpa using hf, rfl, rfl⟩)⟩, fun hf => ⟨i64 (by omega), i64 (by omega), i64 (by omega), fun w14 x14 => ⟨extB1 x14 e4 hb2, subN a b, _, rfl, .inl ⟨hok.1, hok.2, by simpa using hf, rfl, rfl⟩⟩⟩⟩
  · rw [if_neg hok]
    exact ⟨fun _ w11 x11 => ⟨extB1 x11 e4 hb2, zeroN, _, rfl, .inr (.inl ⟨hok, rfl, rfl⟩)⟩, fun h => by omega⟩
end Go.Proofs.Ytblafknmfblgfaa
