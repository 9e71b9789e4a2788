/- Hosts that fit, and the best of them. -/
import Derived.Test.YtblafknmfblgfaaHtB
set_option linter.unusedVariables false
set_option linter.unusedSimpArgs false
namespace Go.Proofs.Ytblafknmfblgfaa
open Go.Sx Go.RowKit

theorem err1_ne5 (k : Int) (key val : ByteArray) (n : Int) (l : Nat) : err1 k key val n l ≠ 5 := by
  unfold err1
  repeat' split
  all_goals omega
theorem errL_ne5 : ∀ {xs : List AT}, (∀ x ∈ xs, errA x ≠ 5) → errL xs ≠ 5
  | [], _ => by unfold errL; omega
  | x :: r, h => by
    unfold errL
    split
    · exact h x (List.mem_cons_self ..)
    · exact errL_ne5 fun y hy => h y (List.mem_cons_of_mem _ hy)
theorem errA_ne5 (t : AT) : errA t ≠ 5 := by
  refine AT.ind (P := fun t => errA t ≠ 5) (fun k key val n xs h => ?_) t
  unfold errA
  split
  · exact err1_ne5 _ _ _ _ _
  · exact errL_ne5 h
theorem errC_ne5 (t : AT) : errC t ≠ 5 := by
  unfold errC
  split
  · omega
  · exact errA_ne5 t

def leftH (L : List Ht) (i : Int) : Nd := subN (L.getD i.toNat default).has (L.getD i.toNat default).used
def fitI (L : List Ht) (t : AT) (a : Nd) (i : Nat) : Bool := valA (atH (L.getD i default)) t && decide (fitN a (subN (L.getD i default).has (L.getD i default).used))
def fitsTo (L : List Ht) (t : AT) (a : Nd) (k : Nat) : List Int := ((List.range k).filter (fitI L t a)).map (Int.ofNat ·)
theorem fitsTo_succ (L : List Ht) (t : AT) (a : Nd) (k : Nat) : fitsTo L t a (k + 1) = if fitI L t a k = true then fitsTo L t a k ++ [(k : Int)] else fitsTo L t a k := by
  unfold fitsTo
  rw [List.range_succ, List.filter_append, List.map_append]
  by_cases h : fitI L t a k = true <;> simp [h]
theorem mem_fits {L : List Ht} {t : AT} {a : Nd} {k : Nat} {x : Int} : x ∈ fitsTo L t a k ↔ 0 ≤ x ∧ x < k ∧ fitI L t a x.toNat = true := by
  unfold fitsTo
  simp only [List.mem_map, List.mem_filter, List.mem_range]
  constructor
  · rintro ⟨n, ⟨h1, h2⟩, rfl⟩
    exact ⟨Int.natCast_nonneg n, by simpa using h1, by simpa using h2⟩
  · rintro ⟨h1, h2, h3⟩
    exact ⟨x.toNat, ⟨by omega, h3⟩, Int.toNat_of_nonneg h1⟩
theorem fits_len (L : List Ht) (t : AT) (a : Nd) (k : Nat) : (fitsTo L t a k).length ≤ k := by
  unfold fitsTo
  rw [List.length_map]
  exact Nat.le_trans (List.length_filter_le _ _) (by simp)
theorem fits_sorted (L : List Ht) (t : AT) (a : Nd) (k : Nat) : (fitsTo L t a k).Pairwise (· < ·) := by
  unfold fitsTo
  rw [List.pairwise_map]
  exact ((List.pairwise_lt_range (n := k)).filter _).imp fun h => by simpa using h
def okAll (L : List Ht) (t : AT) (a : Nd) : Prop := okHs L ∧ errC t = 0 ∧ okN a

theorem left_ok {h : Ht} (hok : okH1 h) : okN (subN h.has h.used) := by
  obtain ⟨h1, h2, h3⟩ := hok.2.2.2.1
  obtain ⟨h4, h5, h6⟩ := hok.2.2.2.2.1
  obtain ⟨h7, h8, h9⟩ := hok.2.2.2.2.2
  refine ⟨?_, ?_, ?_⟩ <;> simp only [subN] <;> omega
theorem sub_ok {h : Ht} (hok : okH1 h) (w : World) : FnP Try.prog F_need_Sub #[nv h.has, nv h.used] w fun v w' => Ext w w' ∧ v = .tuple #[nv (subN h.has h.used), .int .i64 0] :=
  (nSub_k h.has h.used w).mono fun v w' ⟨e, s, f, hv, hs⟩ => ⟨e, by
    rcases hs with ⟨_, _, _, rfl, rfl⟩ | ⟨hno, _⟩ | ⟨_, _, hno, _⟩
    · exact hv
    · exact absurd ⟨hok.2.2.2.1, hok.2.2.2.2.1⟩ hno
    · exact absurd hok.2.2.2.2.2 hno⟩

theorem Fit_k (p : Option Addr) (c : Nat) (L : List Ht) (h63 : (L.length : Int) ≤ 9223372036854775807) (hO : ∀ h ∈ L, HtOk h) (t : AT) (px : Option Addr) (cx : Nat) (hW : WfA t) (a : Nd) (w : World) (hL : HsAt w p L) (hT : IsT w t px cx) :
    FnP Try.prog F_host_Fit #[.slice p L.length c, av t px cx, nv a] w fun v w' => Ext w w' ∧ ∃ q n d e, v = .tuple #[.slice q n d, .int .i64 e] ∧ e ≠ 5 ∧ (∀ x, q = some x → w.heap.size ≤ x.block) ∧
      ((e ≠ 0 ∧ n = 0 ∧ ¬ okAll L t a) ∨ (e = 0 ∧ okAll L t a ∧ n = (fitsTo L t a L.length).length ∧ Ints .i64 w' q (fitsTo L t a L.length))) := by
  refine ok_host_Fit p L.length c t.k t.key t.val t.n px t.xs.length cx a.c a.m a.g w _ fun b0 hb0 b1 hb1 w2 h2 => ?_
  refine (hcheck_k p c L h63 hO w2 (hL.ext h2)).mono fun v w3 ⟨e3, e, hv, he, h5, _⟩ => ⟨e3, e, hv, fun hne w5 h5' => ⟨h5', _, _, _, _, rfl, h5, fun x hx => by (cases hx), .inl ⟨hne, rfl, fun ho => hne (he.2 ho.1)⟩⟩, fun h0 w5 h5 => ?_⟩
  have hok := he.1 h0
  refine (Check_k t px cx w5 (hT.ext h5 _ _ _) hW).mono fun v w6 ⟨e6, hv⟩ => ⟨e6, _, hv, fun hne w8 h8 => ⟨h8, _, _, _, _, rfl, errC_ne5 t, fun x hx => by (cases hx), .inl ⟨hne, rfl, fun ho => hne ho.2.1⟩⟩, fun hc w8 h8 => ?_⟩
  refine (ncheck_k a w8).mono fun v w9 ⟨e9, hv⟩ => ⟨e9, _, hv, fun hne w11 h11 => ⟨h11, _, _, _, _, rfl, (by unfold errN; split <;> omega), fun x hx => by (cases hx), .inl ⟨hne, rfl, fun ho => hne (errN_ok.2 ho.2.2)⟩⟩, fun ha => ?_⟩
  have ha := errN_ok.1 ha
  refine ⟨fun q l d k w' => Ext w w' ∧ 0 ≤ k ∧ k ≤ L.length ∧ l = (fitsTo L t a k.toNat).length ∧ Own w.heap.size w' T_int 1 q l d ((fitsTo L t a k.toNat).map (.int .i64)) ∧ ∀ b ∈ [b0, b1], ∀ x, q = some x → x.block ≠ b,
    fun _ _ _ k _ => (L.length - k).toNat, ⟨Ext.refl w, by omega, by omega, rfl, Own.nil, fun b _ x hx => by cases hx⟩, ?_⟩
  rintro q l d k w14 ⟨x14, hk0, hk1, rfl, o14, hb14⟩
  refine ⟨fun hlt => ?_, fun hge w15 h15 => ⟨x14.trans h15, q, _, d, 0, rfl, by omega, fun x hx => (o14.lt x hx).1, .inr ⟨rfl, ⟨hok, hc, ha⟩, ?_, ?_⟩⟩⟩
  · obtain ⟨qh, dh, hp, hp8, g, hLb⟩ := (hL.ext x14).at hk0 hlt
    have hm := getD_mem L default (i := k.toNat) (by omega)
    have hfit : fitI L t a k.toNat = (valA (atH (L.getD k.toNat default)) t && decide (fitN a (subN (L.getD k.toNat default).has (L.getD k.toNat default).used))) := rfl
    generalize hHd : L.getD k.toNat default = H at g hLb hm hfit
    have hoH := hok.2.1 H hm
    refine ⟨hp, hk0, hlt, hp8, _, g 0 _ rfl, _, _, _, g 1 _ rfl, _, g 2 _ rfl, _, g 3 _ rfl, _, g 4 _ rfl, _, g 5 _ rfl, _, g 6 _ rfl, _, g 7 _ rfl, fun b25 hb25 w26 h26 => ?_⟩
    refine (sub_ok hoH w26).mono fun v w27 ⟨e27, hv⟩ => ⟨e27, _, _, _, _, hv, fun b32 hb32 w33 h33 => ?_⟩
    refine (Holds_k t px cx H qh dh (hO H hm).2.1 w33 (hT.ext (x14.trans h33) _ _ _) hW (hLb.ext h33)).mono fun v w34 ⟨e34, hv⟩ => ⟨e34, _, _, hv, fun w37 h37 => ?_⟩
    rw [if_pos hc]
    refine (nFits_k a (subN H.has H.used) w37).mono fun v w38 ⟨e38, tt, e, hv, ht⟩ => ⟨e38, _, _, hv, ?_⟩
    have ht : tt = decide (fitN a (subN H.has H.used)) := by
      rcases ht with ⟨_, _, _, h⟩ | ⟨hno, _⟩
      · exact h
      · exact absurd ⟨ha, left_ok hoH⟩ hno
    subst ht
    have hsucc := fitsTo_succ L t a k.toNat
    refine ⟨fun hb w41 x41 => ?_, fun hb => ?_⟩
    · have hyes : fitI L t a k.toNat = true := by rw [hfit, hb.1, hb.2]; rfl
      rw [if_pos hyes] at hsucc
      have hln := fits_len L t a k.toNat
      have hs14 := x14.size
      have h30 := hok.1
      refine push_intB (e := T_int) (B := w.heap.size) (ns := [b0, b1, b25, b32]) elem_sl_int o14 hs14 (fun b hb x hx => ?_) (by omega) (by omega) (fun p' c' w' o' g' hp' hns' => ⟨i64 (by omega), ⟨?_, by omega, by omega, ?_, ?_, fun b hb x hx => hns' b (by simp at hb ⊢; rcases hb with rfl | rfl <;> simp) x hx⟩, by simp only []; omega⟩) w41 x41
      · have := o14.lt x hx
        simp at hb
        rcases hb with rfl | rfl | rfl | rfl
        · exact hb14 _ (by simp) x hx
        · exact hb14 _ (by simp) x hx
        · omega
        · omega
      · exact g'.ext x14 o14
      · rw [show (k + 1).toNat = k.toNat + 1 by omega, hsucc]; simp
      · rw [show (k + 1).toNat = k.toNat + 1 by omega, hsucc]
        rw [show ((k.toNat : Nat) : Int) = k by omega]
        exact o'
    · have hno : fitI L t a k.toNat = false := by
        rw [hfit]
        rcases hb with hb | hb <;> rw [hb] <;> simp
      rw [hno] at hsucc
      rw [if_neg (by simp)] at hsucc
      refine ⟨i64 (by omega), ⟨x14, by omega, by omega, ?_, ?_, hb14⟩, by simp only []; omega⟩
      · rw [show (k + 1).toNat = k.toNat + 1 by omega, hsucc]
      · rw [show (k + 1).toNat = k.toNat + 1 by omega, hsucc]; exact o14
  · rw [show k.toNat = L.length by omega]
  · rw [show k.toNat = L.length by omega] at o14
    exact (o14.ext h15).cells

/-- The least of a slice by an order that a closure tells. -/
theorem MinFunc_k (p : Option Addr) (c : Nat) (X : List Int) (h63 : (X.length : Int) ≤ 9223372036854775807) (hX : X ≠ []) (f : Value) (C : Int → Int → Int) (hC : ∀ x y z, C x y < 0 → 0 ≤ C z y → 0 ≤ C z x) (hR : ∀ x, 0 ≤ C x x) (w : World) (h : Ints .i64 w p X)
    (hT : ∀ x y, C x y < 0 → 0 ≤ C y x) (hS : ∀ x y z, C x y < 0 → 0 ≤ C z y → C x z < 0)
    (hf : ∀ x ∈ X, ∀ y ∈ X, ∀ w', Ext w w' → FnVP Try.prog f [.int .i64 x, .int .i64 y] w' fun v w'' => Ext w' w'' ∧ v = .int .i64 (C x y)) :
    FnP Try.prog F_slices_MinFunc_int_int #[.slice p X.length c, f] w fun v w' => Ext w w' ∧ ∃ m, v = .int .i64 m ∧ m ∈ X ∧ (∀ y ∈ X, 0 ≤ C y m) ∧ ∃ a : Nat, a < X.length ∧ X.getD a 0 = m ∧ ∀ j, j < a → C m (X.getD j 0) < 0 := by
  have hlen : 0 < X.length := by cases X with | nil => exact absurd rfl hX | cons => simp
  refine ok_slices_MinFunc_int_int p X.length c f w _ ⟨fun hlt => by omega, fun _ => ?_⟩
  have g0 := Ints.idx h (i := 0) (by omega) (by omega)
  have hm0 := getD_mem X 0 (i := 0) (by omega)
  refine ⟨fun hq => cell_p g0 (pIdx_none.2 hq), by omega, by omega, _, g0, ?_⟩
  refine ⟨fun m i w' => w' = w ∧ 1 ≤ i ∧ i ≤ X.length ∧ m ∈ X ∧ (∀ j : Nat, (j : Int) < i → 0 ≤ C (X.getD j 0) m) ∧ ∃ a : Nat, (a : Int) < i ∧ X.getD a 0 = m ∧ ∀ j, j < a → C m (X.getD j 0) < 0, fun _ i _ => (X.length - i).toNat, ⟨rfl, by omega, by omega, hm0, fun j hj => ?_, 0, by omega, rfl, fun j hj => by omega⟩, ?_⟩
  · obtain rfl : j = 0 := by omega
    exact hR _
  rintro m i w4 ⟨rfl, hi0, hi1, hmm, hall, a, ha, ham, haj⟩
  refine ⟨fun hlt => ?_, fun hge w5 h5 => ⟨h5, m, rfl, hmm, fun y hy => ?_, a, by omega, ham, haj⟩⟩
  · have g := Ints.idx h (i := i) (by omega) hlt
    have hx := getD_mem X 0 (i := i.toNat) (by omega)
    have hp : p ≠ none := fun hq => cell_p g (pIdx_none.2 hq)
    refine ⟨hp, by omega, hlt, _, g, fun w6 h6 => ?_⟩
    obtain ⟨fi, cap, hfe, hfp⟩ := hf _ hx m hmm w6 h6
    refine ⟨fi, cap, hfe, hfp.mono fun v w7 ⟨e7, hv⟩ => ⟨e7, _, hv, fun hneg => ⟨hp, by omega, hlt, _, g, i64 (by omega), ⟨rfl, by omega, by omega, hx, fun j hj => ?_, i.toNat, by omega, rfl, fun j hj => hS _ _ _ hneg (hall j (by omega))⟩, by simp only []; omega⟩, fun hpos => ⟨i64 (by omega), ⟨rfl, by omega, by omega, hmm, fun j hj => ?_, a, by omega, ham, haj⟩, by simp only []; omega⟩⟩⟩
    · by_cases hji : (j : Int) < i
      · exact hC _ _ _ hneg (hall j hji)
      · obtain rfl : j = i.toNat := by omega
        exact hR _
    · by_cases hji : (j : Int) < i
      · exact hall j hji
      · obtain rfl : j = i.toNat := by omega
        exact hpos
  · obtain ⟨j, hj, rfl⟩ := List.getElem_of_mem hy
    have := hall j (by omega)
    simpa [List.getD_eq_getElem?_getD, hj] using this

def cmpI (a b : Int) : Int := if a < b then -1 else if b < a then 1 else 0
theorem Compare_k (x y : Int) (w : World) : FnP Try.prog F_cmp_Compare_int64 #[.int .i64 x, .int .i64 y] w fun v w' => Ext w w' ∧ v = .int .i64 (cmpI x y) := by
  have nan : ∀ (x : Int) (w : World), FnP Try.prog F_cmp_isNaN_int64 #[.int .i64 x] w fun v w' => Ext w w' ∧ v = .bool false := fun x w => ok_cmp_isNaN_int64 x w _ fun w0 h0 => ⟨h0, by simp⟩
  refine ok_cmp_Compare_int64 x y w _ fun w0 h0 => (nan x w0).mono fun v w1 ⟨e1, hv⟩ => ⟨e1, _, hv, fun w3 h3 => (nan y w3).mono fun v w4 ⟨e4, hv⟩ => ⟨e4, _, hv, fun h => by (cases h), fun _ => ⟨fun h => by (cases h), fun _ => ⟨fun hlt w6 h6 => ⟨h6, ?_⟩, fun hge => ⟨fun hlt w6 h6 => ⟨h6, ?_⟩, fun hle w6 h6 => ⟨h6, ?_⟩⟩⟩⟩⟩⟩
  · unfold cmpI; rw [if_pos hlt]
  · unfold cmpI; rw [if_neg (by omega), if_pos hlt]
  · unfold cmpI; rw [if_neg (by omega), if_neg (by omega)]

theorem Or3_k (p : Option Addr) (c : Nat) (a b d : Int) (w : World) (h : Ints .i64 w p [a, b, d]) : FnP Try.prog F_cmp_Or_int #[.slice p 3 c] w fun v w' => Ext w w' ∧ v = .int .i64 (if a ≠ 0 then a else if b ≠ 0 then b else d) := by
  refine ok_cmp_Or_int p 3 c w _ ?_
  refine ⟨fun k w' => w' = w ∧ 0 ≤ k ∧ k ≤ 3 ∧ ∀ j : Nat, (j : Int) < k → [a, b, d].getD j 0 = 0, fun k _ => (3 - k).toNat, ⟨rfl, by omega, by omega, fun j hj => by omega⟩, ?_⟩
  rintro k w2 ⟨rfl, hk0, hk1, hz⟩
  refine ⟨fun hlt => ?_, fun hge w3 h3 => ⟨h3, ?_⟩⟩
  · have hlt : k < 3 := by simpa using hlt
    have g := Ints.idx h hk0 (by simpa using hlt)
    refine ⟨fun hq => cell_p g (pIdx_none.2 hq), hk0, by simpa using hlt, _, g, fun hne w4 h4 => ⟨h4, ?_⟩, fun he => ⟨i64 (by omega), ⟨rfl, by omega, by omega, fun j hj => ?_⟩, by simp only []; omega⟩⟩
    · have : k = 0 ∨ k = 1 ∨ k = 2 := by omega
      rcases this with rfl | rfl | rfl
      · rw [if_pos (by simpa using hne)]; rfl
      · have h0 := hz 0 (by omega)
        rw [if_neg (by simpa using h0), if_pos (by simpa using hne)]; rfl
      · have h0 := hz 0 (by omega)
        have h1 := hz 1 (by omega)
        rw [if_neg (by simpa using h0), if_neg (by simpa using h1)]; rfl
    · by_cases hjk : (j : Int) < k
      · exact hz j hjk
      · obtain rfl : j = k.toNat := by omega
        exact he
  · obtain rfl : k = 3 := by simp at hge; omega
    have h0 := hz 0 (by omega)
    have h1 := hz 1 (by omega)
    have h2 := hz 2 (by omega)
    rw [if_neg (by simpa using h0), if_neg (by simpa using h1)]
    exact congrArg _ (by simpa using h2.symm)

/-- Which of two needs is less. -/
def cmpN (a b : Nd) : Int := if cmpI a.c b.c ≠ 0 then cmpI a.c b.c else if cmpI a.m b.m ≠ 0 then cmpI a.m b.m else cmpI a.g b.g
theorem cmpN_neg {a b : Nd} : cmpN a b < 0 ↔ a.c < b.c ∨ a.c = b.c ∧ (a.m < b.m ∨ a.m = b.m ∧ a.g < b.g) := by
  unfold cmpN cmpI
  repeat' split
  all_goals omega

theorem left1_k (p1 p : Option Addr) (c : Nat) (L : List Ht) (hok : okHs L) (i : Int) (hi0 : 0 ≤ i) (hi1 : i < L.length) (w : World) (hc : Go.Sx.cell w p1 0 = some (.slice p L.length c)) (hL : HsAt w p L) :
    FnP Try.prog F_host_Best_1 #[.int .i64 i, .pointer p1] w fun v w' => Ext w w' ∧ v = nv (leftH L i) := by
  obtain ⟨q, d, hp, hp8, g, _⟩ := hL.at hi0 hi1
  have hm := hok.2.1 _ (getD_mem L default (i := i.toNat) (by omega))
  have hlf : leftH L i = subN (L.getD i.toNat default).has (L.getD i.toNat default).used := rfl
  generalize hHd : L.getD i.toNat default = H at g hm hlf
  have g' : ∀ (o j : Nat) u, (encH H q d)[o + j]? = some u → Go.Sx.cell w (pAdd (pIdx p i 8) o) j = some u := fun o j u hu => by rw [cell_pAdd]; exact g _ u hu
  have x2 := cell_p (g' 2 0 _ rfl)
  have x5 := cell_p (g' 5 0 _ rfl)
  refine ok_host_Best_1 i p1 w _ fun b0 hb0 => ⟨fun n e w' => Ext w w' ∧ NdAt w' n (leftH L i), ⟨p, L.length, c, hc, hp, hi0, hi1, hp8, x2, _, g' 2 0 _ rfl, _, g' 2 1 _ rfl, _, g' 2 2 _ rfl, p, L.length, c, hc, hp, hi0, hi1, hp8, x5, _, g' 5 0 _ rfl, _, g' 5 1 _ rfl, _, g' 5 2 _ rfl, ?_, ?_⟩, ?_⟩
  · intro w17 h17
    refine (sub_ok hm w17).mono fun v w18 ⟨e18, hv⟩ => ⟨e18, _, _, _, _, hv, fun w23 x23 => ?_⟩
    have hb : b0 < w23.heap.size := x23.lt b0 (by simp)
    refine (Held.nil (ns := [b0]) (extB_ext x23)).new_row (by intro v hv; simp at hv; subst hv; rfl) (by simpa using hb) fun p24 w24 H24 e24 => ?_
    refine H24.store 0 rfl 0 (map_add0 _) (by simp) (by simp) (by intro v hv; simp at hv; rcases hv with rfl | rfl | rfl <;> rfl) (by have := e24.size; simp; omega) fun w25 H25 g25 => ⟨H25.ext, ?_⟩
    rw [hlf]
    exact (H25.get 0 rfl).cells
  · intro w17 x17
    have hb : b0 < w17.heap.size := x17.lt b0 (by simp)
    refine (Held.nil (ns := [b0]) (extB_ext x17)).new_row (by intro v hv; simp at hv; subst hv; rfl) (by simpa using hb) fun p18 w18 H18 e18 w19 h19 => ?_
    refine (sub_ok hm w19).mono fun v w20 ⟨e20, hv⟩ => ⟨e20, _, _, _, _, hv, ?_⟩
    refine H18.store 0 rfl 0 (map_add0 _) (by simp) (by simp) (by intro v hv; simp at hv; rcases hv with rfl | rfl | rfl <;> rfl) (by have := e18.size; simp; omega) fun w25 H25 g25 => ⟨H25.ext, ?_⟩
    rw [hlf]
    exact (H25.get 0 rfl).cells
  · rintro n e w4 ⟨x4, hN⟩
    have hN3 := nd_cells hN
    exact ⟨cell_p hN3.1, _, hN3.1, _, hN3.2.1, _, hN3.2.2, fun w8 x8 => ⟨extB1 x8 x4 hb0, rfl⟩⟩

theorem left2_k (p14 p1 p : Option Addr) (c : Nat) (L : List Ht) (hok : okHs L) (i : Int) (hi0 : 0 ≤ i) (hi1 : i < L.length) (k : Int) (hk0 : 0 ≤ k) (hk1 : k < L.length) (w : World) (hc : Go.Sx.cell w p1 0 = some (.slice p L.length c)) (hL : HsAt w p L)
    (hf : Go.Sx.cell w p14 0 = some (.func (.func F_host_Best_1) #[] #[.pointer p1])) :
    FnP Try.prog F_host_Best_2 #[.int .i64 i, .int .i64 k, .pointer p14] w fun v w' => Ext w w' ∧ v = .int .i64 (cmpN (leftH L i) (leftH L k)) := by
  have call : ∀ j : Int, 0 ≤ j → j < L.length → ∀ w', Ext w w' → FnVP Try.prog (.func (.func F_host_Best_1) #[] #[.pointer p1]) [.int .i64 j] w' fun v w'' => Ext w' w'' ∧ v = nv (leftH L j) := fun j h0 h1 w' hx =>
    ⟨F_host_Best_1, #[.pointer p1], rfl, left1_k p1 p c L hok j h0 h1 w' (ext_cell hx hc) (hL.ext hx)⟩
  have calli := call i hi0 hi1
  have callk := call k hk0 hk1
  have vmono : ∀ {f : Value} {args : List Value} {w : World} {K K' : Value → World → Prop}, FnVP Try.prog f args w K → (∀ v w', K v w' → K' v w') → FnVP Try.prog f args w K' := fun ⟨f, c, h1, h2⟩ hk => ⟨f, c, h1, h2.mono hk⟩
  have H0 : Held w [] w [] := Held.nil (Ext.refl w)
  let row : Option Addr → Nd → HRow := fun p x => ⟨T_Need, 3, p, 1, 1, encN x⟩
  refine ok_host_Best_2 i k p14 w _ ⟨fun a b w' => ∃ rs, Held w [] w' rs ∧ ∃ m n : Nat, rs[m]? = some (row a (leftH L i)) ∧ rs[n]? = some (row b (leftH L k)), ⟨_, hf, _, hf, ?_⟩, ?_⟩
  · repeat' (first
      | exact ⟨_, by assumption, 0, 1, rfl, rfl⟩
      | exact ⟨_, by assumption, 1, 0, rfl, rfl⟩
      | (refine (by assumption : Held w [] _ _).new_row (by intro v hv; simp at hv; subst hv; rfl) (by simp) fun _ _ _ _ => ?_)
      | (refine Held.store (by assumption) 0 (e := T_Need) (s := 3) rfl 0 (map_add0 _) (by simp) (by simp) (by intro v hv; simp at hv; rcases hv with rfl | rfl | rfl <;> rfl) (by simp) fun _ _ _ => ?_)
      | (refine Held.store (by assumption) 1 (e := T_Need) (s := 3) rfl 0 (map_add0 _) (by simp) (by simp) (by intro v hv; simp at hv; rcases hv with rfl | rfl | rfl <;> rfl) (by simp) fun _ _ _ => ?_)
      | (refine vmono (calli _ (by first | assumption | exact Held.ext (by assumption))) fun _ _ ⟨ex, hv⟩ => ⟨ex, _, _, _, hv, ?_⟩)
      | (refine vmono (callk _ (by first | assumption | exact Held.ext (by assumption))) fun _ _ ⟨ex, hv⟩ => ⟨ex, _, _, _, hv, ?_⟩)
      | (refine ⟨?_, ?_⟩)
      | (intro wx hx; have Hx := Held.to (w0 := w) (ns := []) (by assumption) hx))
  · rintro a b w3 ⟨rs, H3, m, n, hm, hn⟩
    have ca : NdAt w3 a (leftH L i) := (H3.get m hm).cells
    have cb : NdAt w3 b (leftH L k) := (H3.get n hn).cells
    have ca' := nd_cells ca
    have cb' := nd_cells cb
    have z : ∀ {p : Option Addr} {o : Nat} {v : Value}, Go.Sx.cell w3 p o = some v → Go.Sx.cell w3 (pAdd p o) 0 = some v := fun h => by rw [cell_pAdd]; exact h
    refine ⟨cell_p ca'.1, _, z ca'.1, cell_p cb'.1, _, z cb'.1, cell_p ca'.1, _, z ca'.2.1, cell_p cb'.1, _, z cb'.2.1, cell_p ca'.1, _, z ca'.2.2, cell_p cb'.1, _, z cb'.2.2, fun w10 h10 => ?_⟩
    refine (Compare_k _ _ w10).mono fun v w11 ⟨e11, hv⟩ => ⟨e11, _, hv, fun w13 h13 => ?_⟩
    refine (Compare_k _ _ w13).mono fun v w14 ⟨e14, hv⟩ => ⟨e14, _, hv, fun w16 h16 => ?_⟩
    refine (Compare_k _ _ w16).mono fun v w17 ⟨e17, hv⟩ => ⟨e17, _, hv, fun w19 h19 => ?_⟩
    refine run_lit elem_sl_int [.int .i64 (cmpI (leftH L i).c (leftH L k).c), .int .i64 (cmpI (leftH L i).m (leftH L k).m), .int .i64 (cmpI (leftH L i).g (leftH L k).g)] rfl rfl (by intro v hv; simp at hv; rcases hv with rfl | rfl | rfl <;> rfl) (by omega) (by omega) fun w20 o20 e20 => ⟨e20, _, _, _, rfl, fun w24 h24 => ?_⟩
    refine (Or3_k _ 3 (cmpI (leftH L i).c (leftH L k).c) (cmpI (leftH L i).m (leftH L k).m) (cmpI (leftH L i).g (leftH L k).g) w24 (by have := ((o20 0 (Nat.zero_le _)).ext h24).cells; simpa [Value.cells, Ints] using this)).mono fun v w25 ⟨e25, hv⟩ => ⟨e25, _, hv, fun w27 h27 => ⟨((H3.ext.trans h19).trans e20).trans h27, ?_⟩⟩
    rfl

def BestIs (L : List Ht) (t : AT) (a : Nd) (k : Int) : Prop := k ∈ fitsTo L t a L.length ∧ ∀ j ∈ fitsTo L t a L.length, 0 ≤ cmpN (leftH L j) (leftH L k) ∧ (j < k → cmpN (leftH L k) (leftH L j) < 0)
theorem best_one {L : List Ht} {t : AT} {a : Nd} {k m : Int} (h : BestIs L t a k) (g : BestIs L t a m) : k = m := by
  have h1 := h.2 m g.1
  have g1 := g.2 k h.1
  rcases Int.lt_trichotomy k m with hl | hl | hl
  · have := g1.2 hl; have := h1.1; omega
  · exact hl
  · have := h1.2 hl; have := g1.1; omega
theorem Best_k (p : Option Addr) (c : Nat) (L : List Ht) (h63 : (L.length : Int) ≤ 9223372036854775807) (hO : ∀ h ∈ L, HtOk h) (t : AT) (px : Option Addr) (cx : Nat) (hW : WfA t) (a : Nd) (w : World) (hL : HsAt w p L) (hT : IsT w t px cx) :
    FnP Try.prog F_host_Best #[.slice p L.length c, av t px cx, nv a] w fun v w' => Ext w w' ∧ ∃ k e, v = .tuple #[.int .i64 k, .int .i64 e] ∧
      ((e ≠ 0 ∧ k = 0 ∧ (e = 5 ↔ okAll L t a) ∧ (okAll L t a → fitsTo L t a L.length = [])) ∨ (e = 0 ∧ okAll L t a ∧ BestIs L t a k)) := by
  refine ok_host_Best p L.length c t.k t.key t.val t.n px t.xs.length cx a.c a.m a.g w _ fun w0 h0 => ?_
  refine new_own (by intro v hv; simp at hv; subst hv; rfl) fun w1 o1 e1 => ?_
  generalize hp1 : (some ⟨w0.heap.size, 0, none⟩ : Option Addr) = p1
  rw [hp1] at o1
  have c1 : Go.Sx.cell w1 p1 0 = some (.slice p L.length c) := (o1 0 (Nat.zero_le _)).cells 0 _ rfl
  intro b2 hb2 b3 hb3
  refine ⟨p, L.length, c, c1, fun w7 x7 => ?_⟩
  have x7' := (h0.trans e1).trans (extB_ext x7)
  refine (Fit_k p c L h63 hO t px cx hW a w7 (hL.ext x7') (hT.ext x7' _ _ _)).mono fun v w8 ⟨e8, q, n, d, e, hv, h5, hnew, hr⟩ => ⟨e8, q, n, d, e, hv, ?_⟩
  have x8 := x7'.trans e8
  rcases hr with ⟨hne, rfl, hno⟩ | ⟨rfl, hok, rfl, hI⟩
  · exact ⟨fun _ w13 h13 => ⟨x8.trans h13, _, _, rfl, .inl ⟨hne, rfl, ⟨fun h => absurd h h5, fun h => absurd h hno⟩, fun h => absurd h hno⟩⟩, fun h => absurd h hne⟩
  refine ⟨fun h => absurd rfl h, fun _ => ⟨fun hz w13 h13 => ⟨x8.trans h13, _, _, rfl, .inl ⟨by omega, rfl, ⟨fun _ => hok, fun _ => rfl⟩, fun _ => List.length_eq_zero_iff.1 (by omega)⟩⟩, fun hnz w13 x13 => ?_⟩⟩
  have x13' := x8.trans (extB_ext x13)
  refine (Held.nil (w0 := w13) (ns := [b2, b3]) (Ext.refl w13)).new_row (by intro v hv; simp at hv; subst hv; rfl) (x13.lt) fun p14 w14 H14 e14 => ?_
  refine H14.store 0 rfl 0 (map_add0 _) (by simp) (by simp) (by intro v hv; simp at hv; subst hv; rfl) (fun b hb => Nat.lt_of_lt_of_le (x13.lt b hb) e14.size) fun w15 H15 g15 w16 h16 => ?_
  have e15 := H15.ext
  have x16 := (x13'.trans e15).trans h16
  have cf : Go.Sx.cell w16 p14 0 = some (.func (.func F_host_Best_1) #[] #[.pointer p1]) := ext_cell h16 ((H15.get 0 rfl).cells 0 _ rfl)
  have c16 : Go.Sx.cell w16 p1 0 = some (.slice p L.length c) := ext_cell ((((extB_ext x7).trans e8).trans (extB_ext x13)).trans (e15.trans h16)) c1
  have hln := fits_len L t a L.length
  refine (MinFunc_k q d (fitsTo L t a L.length) (by omega) (by intro h; rw [h] at hnz; simp at hnz) _ (fun x y => cmpN (leftH L x) (leftH L y)) (fun x y z h1 h2 => ?_) (fun x => ?_) w16 (hI.ext (((extB_ext x13).trans e15).trans h16)) (fun x y h1 => ?_) (fun x y z h1 h2 => ?_) fun x hx y hy w' hx' => ?_).mono fun v w17 ⟨e17, m, hv, hm, hall, a', ha', ham, haj⟩ => ⟨e17, m, hv, fun w19 h19 => ⟨(x13'.trans e15).trans h19, _, _, rfl, .inr ⟨rfl, hok, hm, fun j hj => ⟨hall j hj, fun hjm => ?_⟩⟩⟩⟩
  · have h1 := cmpN_neg.1 h1
    have h2 : ¬ cmpN (leftH L z) (leftH L y) < 0 := by omega
    rw [cmpN_neg] at h2
    have h3 : ¬ cmpN (leftH L z) (leftH L x) < 0 := by rw [cmpN_neg]; omega
    show 0 ≤ cmpN (leftH L z) (leftH L x)
    omega
  · have : ¬ cmpN (leftH L x) (leftH L x) < 0 := by rw [cmpN_neg]; omega
    show 0 ≤ cmpN (leftH L x) (leftH L x)
    omega
  · have h1 := cmpN_neg.1 h1
    have : ¬ cmpN (leftH L y) (leftH L x) < 0 := by rw [cmpN_neg]; omega
    show 0 ≤ cmpN (leftH L y) (leftH L x)
    omega
  · have h1 := cmpN_neg.1 h1
    have h2 : ¬ cmpN (leftH L z) (leftH L y) < 0 := by omega
    rw [cmpN_neg] at h2
    show cmpN (leftH L x) (leftH L z) < 0
    rw [cmpN_neg]
    omega
  · have hx1 := mem_fits.1 hx
    have hy1 := mem_fits.1 hy
    exact ⟨F_host_Best_2, #[.pointer p14], rfl, left2_k p14 p1 p c L hok.1 x hx1.1 hx1.2.1 y hy1.1 hy1.2.1 w' (ext_cell hx' c16) (hL.ext (x16.trans hx')) (ext_cell hx' cf)⟩
  · obtain ⟨b, hb, rfl⟩ := List.getElem_of_mem hj
    have hbg : (fitsTo L t a L.length).getD b 0 = (fitsTo L t a L.length)[b] := by simp [List.getD_eq_getElem?_getD, hb]
    have hba : b < a' := by
      rcases Nat.lt_or_ge b a' with h | h
      · exact h
      exfalso
      have hs := fits_sorted L t a L.length
      have ham' : (fitsTo L t a L.length)[a'] = m := by rw [← ham]; simp [List.getD_eq_getElem?_getD, ha']
      rcases Nat.lt_or_ge a' b with h2 | h2
      · have := (List.pairwise_iff_getElem.1 hs) a' b ha' hb h2
        omega
      · obtain rfl : a' = b := by omega
        omega
    have := haj b hba
    rw [hbg] at this
    exact this

end Go.Proofs.Ytblafknmfblgfaa
