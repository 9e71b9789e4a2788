/- The law PackLeast: the least number of boxes. -/
import Derived.Test.YtmdnjnflmijofaaPLb
import Derived.Test.YtmdnjnflmijofaaSxK
set_option linter.unusedVariables false
set_option linter.unusedSimpArgs false
namespace Go.Sx
open Go.RowKit
variable {P : Program}
theorem setCell_back (w : World) (a : Addr) (u v : Value) (hc : w.cell? a = some u) : (w.setCell a v).setCell a u = w := by
  have hext : ∀ (x y : World), x = { y with heap := x.heap } → x.heap = y.heap → x = y := fun x y h1 h2 => by rw [h1, h2]
  refine hext _ _ rfl ?_
  apply Array.ext_getElem?
  intro i
  simp only [World.setCell, Array.getElem?_modify]
  by_cases hi : a.block = i
  · subst hi
    unfold World.cell? at hc
    cases hb : w.heap[a.block]? with
    | none => simp
    | some o =>
      cases o with
      | cells cs ty fz =>
        rw [hb] at hc
        simp only [if_true, Option.map_some]
        congr 2
        by_cases hsp : a.spot.isSome = true
        · simp [hsp]
        · rw [if_neg hsp, if_neg hsp]
          simp [hsp] at hc
          apply Array.ext_getElem?
          intro j
          simp only [Array.getElem?_setIfInBounds, Array.size_setIfInBounds]
          by_cases hj : a.off = j
          · subst hj
            obtain ⟨hlt2, he⟩ := Array.getElem?_eq_some_iff.1 hc
            simp [hlt2, he]
          · simp [hj]
      | _ => simp
  · simp [hi]

theorem store_back {B : Nat} {w : World} {e : TypeId} {k : IntKind} {q : Option Addr} {n c : Nat} {xs : List Int} {i x : Int} {K : World → Prop}
    (ho : Own B w e 1 q n c (xs.map (.int k))) (h0 : 0 ≤ i) (hi : i < xs.length)
    (hk : ∀ w', Own B w' e 1 q n c ((xs.set i.toNat x).map (.int k)) → Grew w w' q q → (∀ y K', y = xs.getD i.toNat 0 → K' w → Store w' (pIdx q i 1) [.int k y] [] K') → K w') : Store w (pIdx q i 1) [.int k x] [] K := by
  have hs := store_int (K := fun w' => Own B w' e 1 q n c ((xs.set i.toNat x).map (.int k)) ∧ Grew w w' q q) (ns := []) (x := x) ho h0 hi (by simp) fun w' h1 h2 => ⟨h1, h2⟩
  refine ⟨hs.1, fun w' hw' => ?_⟩
  obtain ⟨o, g⟩ := hs.2 w' hw'
  refine hk w' o g fun y K' hy hK => ?_
  have hs2 := store_int (K := fun _ => True) (ns := []) (x := y) o h0 (by simpa using hi) (by simp) fun _ _ _ => trivial
  refine ⟨hs2.1, fun w2 hw2 => ?_⟩
  have hc := ho.int_at h0 hi
  obtain ⟨a, ha, _, hca⟩ := cell_some hc
  rw [hw2, hw', ha]
  show K' ((w.setCell (a.add 0) (.int k x)).setCell (a.add 0) (.int k y))
  rw [hy, setCell_back _ _ _ _ hca]
  exact hK

theorem Ints.tail {k : IntKind} {w : World} {p : Option Addr} {x : Int} {xs : List Int} {c : Nat} (h : Ints k w p (x :: xs)) (hc : xs.length + 1 ≤ c) : Ints k w (pCut p c 1 1) xs := by
  intro i v hv
  by_cases h1 : c = 1
  · subst h1
    have : xs = [] := List.eq_nil_of_length_eq_zero (by omega)
    subst this; simp at hv
  · rw [cell_pCut _ _ _ _ _ _ (by simpa using h1)]
    have := h (i + 1) v (by simpa using hv)
    simpa [Nat.add_comm] using this
end Go.Sx

namespace Go.Proofs.Ytmdnjnflmijofaa
open Go.Sx Go.RowKit

def okP (s : Int) (L : List Int) : Prop := L.length ≤ 100 ∧ (1 ≤ s ∧ s ≤ 1099511627776) ∧ ∀ x ∈ L, 1 ≤ x ∧ x ≤ s

theorem pcheck_k (s : Int) (q : Option Addr) (c : Nat) (L : List Int) (h64 : (L.length : Int) ≤ 9223372036854775807) (w : World) (hL : Ints .i64 w q L) : FnP Try.prog F_pack_Check #[.slice q L.length c, .int .i64 s] w fun v w' => Ext w w' ∧ ∃ t, v = .int .i64 t ∧ (t = 0 ↔ okP s L) := by
  refine ok_pack_Check q L.length c s w _ ⟨fun h w0 h0 => ⟨h0, _, rfl, by unfold okP; omega⟩, fun h1 => ⟨fun h w0 h0 => ⟨h0, _, rfl, by unfold okP; omega⟩, fun h2 => ?_⟩⟩
  refine ⟨fun k w' => w' = w ∧ 0 ≤ k ∧ k ≤ L.length ∧ ∀ j : Nat, (j : Int) < k → 1 ≤ dg L j ∧ dg L j ≤ s, fun k _ => (L.length - k).toNat, ⟨rfl, by omega, by omega, fun j hj => by omega⟩, ?_⟩
  rintro k w ⟨rfl, hk0, hk1, hall⟩
  refine ⟨fun hlt => ?_, fun hge w3 h3 => ⟨h3, _, rfl, fun _ => ?_, fun _ => rfl⟩⟩
  · have g := Ints.idx hL hk0 hlt
    refine ⟨fun hq => cell_p g (pIdx_none.2 hq), hk0, hlt, _, g, fun hbad w4 h4 => ⟨h4, _, rfl, fun h => by omega, fun h => ?_⟩, fun hgd => ⟨i64 (by omega), ⟨rfl, by omega, by omega, fun j hj => ?_⟩, by simp only []; omega⟩⟩
    · have := h.2.2 _ (getD_mem L 0 (i := k.toNat) (by omega)); omega
    · by_cases hjk : (j : Int) < k
      · exact hall j hjk
      · obtain rfl : j = k.toNat := by omega
        exact hgd
  · refine ⟨by omega, h2, fun x hx => ?_⟩
    obtain ⟨j, hj, rfl⟩ := List.getElem_of_mem hx
    have := hall j (by omega)
    simpa [dg, List.getD_eq_getElem?_getD, hj] using this

/-- The rest of the things goes into boxes that are begun, or into new ones: n boxes in all. -/
inductive Fill (s : Int) : List Int → List Int → Nat → Prop
  | nil {F : List Int} : Fill s [] F F.length
  | put {x : Int} {L F : List Int} {n k : Nat} : k < F.length → F.getD k 0 + x ≤ s → Fill s L (F.set k (F.getD k 0 + x)) n → Fill s (x :: L) F n
  | new {x : Int} {L F : List Int} {n : Nat} : Fill s L (F ++ [x]) n → Fill s (x :: L) F n

theorem Fill.ge {s : Int} {L F : List Int} {n : Nat} (h : Fill s L F n) : F.length ≤ n := by
  induction h with
  | nil => exact Nat.le_refl _
  | put _ _ _ ih => simpa using ih
  | new _ ih => simp at ih; omega
theorem Fill.all (s : Int) (L F : List Int) : Fill s L F (F.length + L.length) := by
  induction L generalizing F with
  | nil => exact .nil
  | cons x L ih =>
    have := ih (F ++ [x])
    simp only [List.length_append, List.length_cons, List.length_nil] at this ⊢
    refine .new ?_
    rwa [show F.length + (L.length + 1) = F.length + 1 + L.length by omega]
theorem sumL_le' {X : List Int} {s : Int} (h : ∀ x ∈ X, x ≤ s) : sumL X ≤ X.length * s := sumL_le h
theorem Fill.sum {s : Int} {L F : List Int} {n : Nat} (h : Fill s L F n) (hF : ∀ x ∈ F, x ≤ s) (hL : ∀ x ∈ L, x ≤ s) : sumL F + sumL L ≤ n * s := by
  induction h with
  | nil => have := sumL_le hF; simp [sumL]; omega
  | @put x L F n k hk hs _ ih =>
    have := ih (fun y hy => by
      rcases mem_set_cases hy with h | rfl
      · exact hF y h
      · exact hs) (fun y hy => hL y (by simp [hy]))
    rw [sumL_set hk] at this
    simp only [sumL] at this ⊢; omega
  | @new x L F n _ ih =>
    have := ih (fun y hy => by
      rcases List.mem_append.1 hy with h | h
      · exact hF y h
      · simp at h; subst h; exact hL y (by simp)) (fun y hy => hL y (by simp [hy]))
    rw [sumL_append] at this
    simp only [sumL] at this ⊢; omega

/-- What 'least' answers. -/
structure Bst (s : Int) (L F : List Int) (b t : Int) : Prop where
  is : t = b ∨ ∃ n : Nat, t = n ∧ Fill s L F n
  le : t ≤ b
  all : ∀ n : Nat, Fill s L F n → t ≤ n

theorem clone64_k (B : Nat) (p : Option Addr) (n c : Nat) (F : List Int) (hn : n ≤ 1000) (w : World) (h : Own B w T_int64 1 p n c (F.map (.int .i64))) : FnP Try.prog F_slices_Clone_int64_int64 #[.slice p n c] w fun v w' => Ext w w' ∧ ∃ p' c', v = .slice p' n c' ∧ Own w.heap.size w' T_int64 1 p' n c' (F.map (.int .i64)) := by
  refine ok_slices_Clone_int64_int64 p n c w _ ⟨fun hp => ?_, fun hp => ?_⟩
  · subst hp
    rcases h.2 with ⟨h1, h2⟩ | ⟨g, cap, cur, h1, _⟩
    · have hl := h.leni
      obtain ⟨rfl, rfl⟩ : n = 0 ∧ c = 0 := by simpa using h1
      have : F = [] := List.eq_nil_of_length_eq_zero hl
      subst this
      exact fun w0 h0 => ⟨h0, none, 0, rfl, Own.nil⟩
    · simp at h1
  · refine clone_txt elem_sl_int64 (by omega) (Q := fun v w' => Ext w w' ∧ ∃ p' c', v = .slice p' n c' ∧ Own w.heap.size w' T_int64 1 p' n c' (F.map (.int .i64))) h.cells h.1 (fun u hu => ?_) (by omega) (by omega) hp fun p' c' w' e o => ⟨e, p', c', rfl, o⟩
    obtain ⟨x, _, rfl⟩ := List.mem_map.1 hu
    rfl

theorem least_k (s : Int) (hs : 1 ≤ s ∧ s ≤ 1099511627776) : ∀ (L : List Int), (∀ x ∈ L, 1 ≤ x ∧ x ≤ s) → ∀ (q : Option Addr) (c : Nat), L.length ≤ c → ∀ (B0 w : World), Ext B0 w → Ints .i64 B0 q L → ∀ (p : Option Addr) (n d : Nat) (F : List Int) (b : Int), n + L.length ≤ 1000 → (∀ x ∈ F, 0 ≤ x ∧ x ≤ s) →
    Own B0.heap.size w T_int64 1 p n d (F.map (.int .i64)) → FnP Try.prog F_pack_least #[.slice q L.length c, .int .i64 s, .slice p n d, .int .i64 b] w fun v w' => Ext w w' ∧ ∃ t, v = .int .i64 t ∧ Bst s L F b t := by
  intro L
  induction L with
  | nil =>
    intro _ q c hc B0 w hx hL p n d F b hn hF o
    have hnl := o.leni
    refine ok_pack_least q 0 c s p n d b w _ ⟨fun h w0 h0 => ⟨h0, b, rfl, .inl rfl, Int.le_refl _, fun m hm => by have := hm.ge; omega⟩, fun h => ⟨fun _ w0 h0 => ⟨h0, _, rfl, .inr ⟨n, rfl, by rw [← hnl]; exact .nil⟩, by omega, fun m hm => by have := hm.ge; omega⟩, fun h => absurd rfl h⟩⟩
  | cons x L ih =>
    intro hLb q c hc B0 w hx hL p n d F b hn hF o
    have hnl := o.leni
    have hxb := hLb x (by simp)
    have hLt : ∀ y ∈ L, 1 ≤ y ∧ y ≤ s := fun y hy => hLb y (by simp [hy])
    simp only [List.length_cons] at hc hn
    have ht := Ints.tail hL hc
    refine ok_pack_least q (L.length + 1) c s p n d b w _ ⟨fun h w0 h0 => ⟨h0, b, rfl, .inl rfl, Int.le_refl _, fun m hm => by have := hm.ge; omega⟩, fun h => ⟨fun h => by omega, fun _ => ?_⟩⟩
    refine ⟨fun b1 k w' => w' = w ∧ 0 ≤ k ∧ k ≤ n ∧ (b1 = b ∨ ∃ m : Nat, b1 = m ∧ Fill s (x :: L) F m) ∧ b1 ≤ b ∧ ∀ j : Nat, (j : Int) < k → F.getD j 0 + x ≤ s → ∀ m, Fill s L (F.set j (F.getD j 0 + x)) m → b1 ≤ m, fun _ k _ => (n - k).toNat, ⟨rfl, by omega, by omega, .inl rfl, Int.le_refl _, fun j hj => by omega⟩, ?_⟩
    rintro b1 k w ⟨rfl, hk0, hk1, hb1, hb2, hb3⟩
    have g0 : ∀ w', Ext B0 w' → cell w' (pIdx q 0 1) 0 = some (.int .i64 x) := fun w' hw' => by simpa using Ints.idx (hL.ext hw') (i := 0) (by omega) (by simp)
    have hq : q ≠ none := fun hq => cell_p (g0 w hx) (pIdx_none.2 hq)
    have hcut : ((((L.length + 1 : Nat) : Int)) - 1).toNat = L.length := by omega
    refine ⟨fun hlt => ?_, fun hge => ?_⟩
    · have g := o.int_at hk0 (by omega)
      have hfk := hF _ (getD_mem F 0 (i := k.toNat) (by omega))
      have hp := o.ne1 (by omega) (by omega)
      refine ⟨hp, hk0, hlt, _, g, hq, by omega, by omega, _, g0 w hx, i64 (by omega), fun hle => ?_, fun hgt => ⟨i64 (by omega), ⟨rfl, by omega, by omega, hb1, hb2, fun j hj hsj => ?_⟩, by simp only []; omega⟩⟩
      · refine ⟨hp, hk0, hlt, _, g, hq, by omega, by omega, _, g0 w hx, i64 (by omega), hp, hk0, hlt, ?_⟩
        refine store_back o hk0 (by omega) fun w8 o8 g8 hback => ?_
        have hx8 := g8.ext hx o
        refine ⟨by omega, by omega, by omega, fun w9 h9 => ?_⟩
        rw [hcut]
        refine (ih hLt _ (c - (1 : Int).toNat) (by simp; omega) B0 w9 (hx8.trans h9) ht p n d (F.set k.toNat (F.getD k.toNat 0 + x)) b1 (by omega) (fun y hy => ?_) (o8.ext h9)).mono fun v w10 ⟨e10, t, hv, hB⟩ => ⟨e10, t, hv, hp, hk0, hlt, _, o8.int_at hk0 (by simp; omega), hq, by omega, by omega, _, g0 w8 hx8, ?_, hp, hk0, hlt, ?_⟩
        · rcases mem_set_cases hy with h | rfl
          · exact hF y h
          · omega
        · rw [getD_set _ _ _ _ _ (by omega), if_pos rfl]; exact i64 (by omega)
        · refine hback _ _ (by rw [getD_set _ _ _ _ _ (by omega), if_pos rfl]; omega) ⟨i64 (by omega), ⟨rfl, by omega, by omega, ?_, ?_, fun j hj hsj m hm => ?_⟩, by simp only []; omega⟩
          · rcases hB.is with h | ⟨m, h1, h2⟩
            · rw [h]; exact hb1
            · exact .inr ⟨m, h1, .put (by omega) hle h2⟩
          · have := hB.le; omega
          · by_cases hjk : (j : Int) < k
            · have := hb3 j hjk hsj m hm; have := hB.le; omega
            · obtain rfl : j = k.toNat := by omega
              exact hB.all m hm
      · by_cases hjk : (j : Int) < k
        · exact hb3 j hjk hsj
        · obtain rfl : j = k.toNat := by omega
          omega
    · obtain rfl : k = n := by omega
      have hlast : ∀ w19, Ext w w19 → ∀ p2 c2, Own B0.heap.size w19 T_int64 1 p2 (n + 1) c2 ((F ++ [x]).map (.int .i64)) → ∀ w23, Ext w19 w23 → FnP Try.prog F_pack_least #[.slice (pCut q c 1 1) ((((L.length + 1 : Nat) : Int)) - 1).toNat (c - (1 : Int).toNat), .int .i64 s, .slice p2 (n + 1) c2, .int .i64 b1] w23 fun v24 w24 => Ext w23 w24 ∧ ∃ t : Int, v24 = .int .i64 t ∧ Ext w w19 ∧ Bst s (x :: L) F b t := by
        intro w19 h19 p2 c2 o19 w23 h23
        rw [hcut]
        refine (ih hLt _ (c - (1 : Int).toNat) (by simp; omega) B0 w23 ((hx.trans h19).trans h23) ht p2 (n + 1) c2 (F ++ [x]) b1 (by omega) (fun y hy => ?_) (o19.ext h23)).mono fun v w24 ⟨e24, t, hv, hB⟩ => ⟨e24, t, hv, h19, ?_⟩
        · rcases List.mem_append.1 hy with h | h
          · exact hF y h
          · simp at h; omega
        · refine ⟨?_, ?_, fun m hm => ?_⟩
          · rcases hB.is with h | ⟨m, h1, h2⟩
            · rw [h]; exact hb1
            · exact .inr ⟨m, h1, .new h2⟩
          · have := hB.le; omega
          · cases hm with
            | put h1 h2 h3 => have := hb3 _ (by omega) h2 m h3; have := hB.le; omega
            | new h1 => exact hB.all m h1
      refine ⟨fun t w' => Ext w w' ∧ Bst s (x :: L) F b t, ⟨by omega, by omega, by omega, hq, by omega, by omega, _, g0 w hx, ?_, ?_⟩, fun t w6 ⟨h6, hB⟩ w7 h7 => ⟨h6.trans h7, t, rfl, hB⟩⟩
      · intro w8 h8
        refine (clone64_k _ p n d F (by omega) w8 (o.ext h8)).mono fun v w9 ⟨e9, p', c', hv, o9⟩ => ⟨e9, p', n, c', hv, ?_⟩
        refine push_int elem_sl_int64 o9 e9.size (by omega) (by omega) fun p2 c2 w19 o19 g19 _ => ?_
        have hx8 := hx.trans h8
        exact hlast w19 (h8.trans (g19.ext e9 o9)) p2 c2 (o19.weak hx8.size)
      · intro w8 h8
        refine run_lit elem_sl_int64 [.int .i64 x] rfl rfl (by intro v hv; simp at hv; subst hv; rfl) (by omega) (by omega) fun w9 o9 e9 => ⟨e9, _, _, _, rfl, fun w13 h13 => ?_⟩
        have hx13 := (h8.trans e9).trans h13
        refine (clone64_k _ p n d F (by omega) w13 (o.ext hx13)).mono fun v w14 ⟨e14, p', c', hv, o14⟩ => ⟨e14, p', n, c', hv, fun w18 h18 => ?_⟩
        have hx18 := e14.trans h18
        refine run_app elem_sl_int64 (by omega) (o14.ext h18) hx18.size (by simp) (news := [.int .i64 x]) rfl (((o9 0 (Nat.zero_le _)).ext (h13.trans hx18)).cells) (by simp [Value.oneCell']) (by omega) (by omega) fun p2 c2 w19 o19 g19 _ => ⟨_, _, _, rfl, ?_⟩
        refine hlast w19 (hx13.trans (g19.ext hx18 (o14.ext h18))) p2 c2 ?_
        have := o19.weak (hx.trans hx13).size
        simpa using this
end Go.Proofs.Ytmdnjnflmijofaa
