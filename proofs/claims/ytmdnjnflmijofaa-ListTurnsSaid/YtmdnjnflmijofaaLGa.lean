/- Jobs of a graph at work: the table, who may begin. -/
import Derived.Test.YtmdnjnflmijofaaPathT
import Derived.Test.YtmdnjnflmijofaaPLa
set_option linter.unusedVariables false
set_option linter.unusedSimpArgs false
namespace Go.Proofs.Ytmdnjnflmijofaa
open Go.Sx Go.RowKit

noncomputable def tt (p : Prop) : Bool := @decide p (Classical.propDecidable p)
theorem tt_t {p : Prop} (h : p) : tt p = true := @decide_eq_true p (Classical.propDecidable p) h
theorem tt_f {p : Prop} (h : ¬ p) : tt p = false := @decide_eq_false p (Classical.propDecidable p) h
theorem of_tt {p : Prop} (h : tt p = true) : p := @of_decide_eq_true p (Classical.propDecidable p) h
theorem of_ff {p : Prop} (h : tt p = false) : ¬ p := @of_decide_eq_false p (Classical.propDecidable p) h
theorem tt_dec {p : Prop} [Decidable p] : tt p = decide p := by
  by_cases h : p
  · rw [tt_t h, decide_eq_true h]
  · rw [tt_f h, decide_eq_false h]
theorem tt_congr {p q : Prop} (h : p ↔ q) : tt p = tt q := by rw [propext h]

structure TT where
  at_ : Int
  hand : Int
instance : Inhabited TT := ⟨⟨0, 0⟩⟩
def encT (x : TT) : List Value := [.int .i64 x.at_, .int .i64 x.hand]
abbrev tu (Tn : List TT) (i : Nat) : TT := Tn.getD i default
/-- Where the table's rows stand. -/
structure TabP where
  lq : Option Addr
  lc : Nat
  L : List E
  dq : Option Addr
  dc : Nat
  D : List Int
  tq : Option Addr
  tc : Nat
  bq : Option Addr
  bc : Nat
  fq : Option Addr
  fc : Nat
structure Tab (w : World) (t : Option Addr) (P : TabP) (Tn : List TT) (Bg : List Bool) (Fr : List Int) : Prop where
  cells : Cells w t [.slice P.lq P.L.length P.lc, .slice P.dq P.D.length P.dc, .slice P.tq Tn.length P.tc, .slice P.bq Bg.length P.bc, .slice P.fq Fr.length P.fc]
  L : Edges w P.lq P.L
  D : Ints .i64 w P.dq P.D
  T : Recs 2 encT w P.tq Tn
  B : Cells w P.bq (Bg.map .bool)
  F : Ints .i64 w P.fq Fr
theorem Tab.ext {w w' : World} {t : Option Addr} {P : TabP} {Tn : List TT} {Bg : List Bool} {Fr : List Int} (h : Tab w t P Tn Bg Fr) (he : Ext w w') : Tab w' t P Tn Bg Fr :=
  ⟨h.cells.ext he, h.L.ext he, h.D.ext he, h.T.ext he, h.B.ext he, h.F.ext he⟩
theorem Tab.cell {w : World} {t : Option Addr} {P : TabP} {Tn : List TT} {Bg : List Bool} {Fr : List Int} (h : Tab w t P Tn Bg Fr) {j : Nat} {u : Value} (hu : [Value.slice P.lq P.L.length P.lc, .slice P.dq P.D.length P.dc, .slice P.tq Tn.length P.tc, .slice P.bq Bg.length P.bc, .slice P.fq Fr.length P.fc][j]? = some u) : Go.Sx.cell w (pAdd t j) 0 = some u := by
  rw [cell_pAdd]; exact h.cells j u hu
theorem Tab.ne {w : World} {t : Option Addr} {P : TabP} {Tn : List TT} {Bg : List Bool} {Fr : List Int} (h : Tab w t P Tn Bg Fr) : t ≠ none := cell_p (h.cells 0 _ rfl)

/-- Numbers that a table of the law holds. -/
structure TabN (P : TabP) (N : Nat) (Tn : List TT) (Bg : List Bool) (Fr : List Int) : Prop where
  n : N ≤ 60
  tl : Tn.length = N
  bl : Bg.length = N
  dl : P.D.length = N
  fl : Fr.length ≤ 20
  L : ∀ e ∈ P.L, okE N e
  D : ∀ x ∈ P.D, 0 ≤ x ∧ x ≤ 1000000000
  T : ∀ x ∈ Tn, 0 ≤ x.at_ ∧ x.at_ ≤ 1000000000000

def Ended (P : TabP) (Tn : List TT) (Bg : List Bool) (now : Int) (i : Nat) : Prop := Bg.getD i false = true ∧ (tu Tn i).at_ + P.D.getD i 0 ≤ now

theorem ended_k {P : TabP} {N : Nat} {Tn : List TT} {Bg : List Bool} {Fr : List Int} (H : TabN P N Tn Bg Fr) (t : Option Addr) (i now : Int) (hi0 : 0 ≤ i) (hi1 : i < N) (w : World) (h : Tab w t P Tn Bg Fr) :
    FnP Try.prog F_list_table_ended #[.pointer t, .int .i64 i, .int .i64 now] w fun v w' => Ext w w' ∧ v = .bool (tt (Ended P Tn Bg now i.toNat)) := by
  have hbl := H.bl
  have htl := H.tl
  have hdl := H.dl
  have gb : Go.Sx.cell w (pIdx P.bq i 1) 0 = some (.bool (Bg.getD i.toNat false)) := by
    rw [cell_pIdx]
    have := h.B i.toNat (.bool (Bg.getD i.toNat false)) (by simp [List.getD_eq_getElem?_getD, show i.toNat < Bg.length by omega])
    simpa using this
  have gt := h.T.idx default hi0 (show i < Tn.length by omega) (j := 0) rfl
  have gd := Ints.idx h.D hi0 (show i < P.D.length by omega)
  have hD := H.D _ (getD_mem P.D 0 (i := i.toNat) (by omega))
  have hT := H.T _ (getD_mem Tn default (i := i.toNat) (by omega))
  refine ok_list_table_ended t i now w _ ⟨h.ne, h.ne, _, _, _, h.cell (j := 3) rfl, fun hq => cell_p gb (pIdx_none.2 hq), hi0, by omega, _, gb, fun _ => h.ne, fun _ => h.ne, fun hb => ?_, fun hb w4 h4 => ⟨h4, ?_⟩⟩
  · refine ⟨_, _, _, h.cell (j := 2) rfl, fun hq => cell_p gt (pIdx_none.2 hq), hi0, by omega, cell_p gt, _, by rw [cell_pAdd]; exact gt, h.ne, h.ne, _, _, _, h.cell (j := 1) rfl, fun hq => cell_p gd (pIdx_none.2 hq), hi0, by omega, _, gd, i64 (by omega), fun w12 h12 => ⟨h12, ?_⟩⟩
    congr 1
    rw [← tt_dec]
    exact tt_congr ⟨fun h => ⟨hb, h⟩, fun h => h.2⟩
  · congr 1; symm
    refine tt_f ?_
    rintro ⟨h1, _⟩
    rw [hb] at h1; cases h1

/-- The next time at which a hand is free that is not. -/
theorem next_k {P : TabP} {Tn : List TT} {Bg : List Bool} {Fr : List Int} (hfl : Fr.length ≤ 20) (t : Option Addr) (now : Int) (w : World) (h : Tab w t P Tn Bg Fr) :
    FnP Try.prog F_list_table_next #[.pointer t, .int .i64 now] w fun v w' => Ext w w' ∧ ∃ r : Int, v = .int .i64 r ∧ ((∀ x ∈ Fr, now < x → 0 ≤ x) → (r = -1 ∧ ∀ x ∈ Fr, x ≤ now) ∨ (r ∈ Fr ∧ now < r ∧ ∀ x ∈ Fr, now < x → r ≤ x)) := by
  refine ok_list_table_next t now w _ ⟨h.ne, h.ne, _, _, _, h.cell (j := 4) rfl, fun r k w' => w' = w ∧ 0 ≤ k ∧ k ≤ Fr.length ∧ ((∀ x ∈ Fr, now < x → 0 ≤ x) → (r = -1 ∧ ∀ j : Nat, (j : Int) < k → Fr.getD j 0 ≤ now) ∨ (r ∈ Fr ∧ now < r ∧ ∀ j : Nat, (j : Int) < k → now < Fr.getD j 0 → r ≤ Fr.getD j 0)), fun _ k _ => (Fr.length - k).toNat, ⟨rfl, by omega, by omega, fun _ => .inl ⟨rfl, fun j hj => by omega⟩⟩, ?_⟩
  rintro r k w6 ⟨rfl, hk0, hk1, hinv⟩
  refine ⟨fun hlt => ?_, fun hge w7 h7 => ⟨h7, r, rfl, fun hpos => ?_⟩⟩
  · have g := Ints.idx h.F hk0 hlt
    have hm := getD_mem Fr 0 (i := k.toNat) (by omega)
    refine ⟨fun hq => cell_p g (pIdx_none.2 hq), hk0, hlt, _, g, fun hc => ⟨i64 (by omega), ⟨rfl, by omega, by omega, fun hpos => .inr ⟨hm, hc.1, fun j hj hnj => ?_⟩⟩, by simp only []; omega⟩, fun hc => ⟨i64 (by omega), ⟨rfl, by omega, by omega, fun hpos => ?_⟩, by simp only []; omega⟩⟩
    · by_cases hjk : (j : Int) < k
      · rcases hinv hpos with ⟨_, h2⟩ | ⟨h1, h2, h3⟩
        · have := h2 j hjk; omega
        · have := h3 j hjk hnj
          have := hpos r h1 h2
          omega
      · obtain rfl : j = k.toNat := by omega
        omega
    · rcases hinv hpos with ⟨h1, h2⟩ | ⟨h1, h2, h3⟩
      · refine .inl ⟨h1, fun j hj => ?_⟩
        by_cases hjk : (j : Int) < k
        · exact h2 j hjk
        · obtain rfl : j = k.toNat := by omega
          omega
      · refine .inr ⟨h1, h2, fun j hj hnj => ?_⟩
        by_cases hjk : (j : Int) < k
        · exact h3 j hjk hnj
        · obtain rfl : j = k.toNat := by omega
          omega
  · rcases hinv hpos with ⟨h1, h2⟩ | ⟨h1, h2, h3⟩
    · refine .inl ⟨h1, fun x hx => ?_⟩
      obtain ⟨j, hj, rfl⟩ := List.getElem_of_mem hx
      have := h2 j (by omega)
      simpa [List.getD_eq_getElem?_getD, hj] using this
    · refine .inr ⟨h1, h2, fun x hx hn => ?_⟩
      obtain ⟨j, hj, rfl⟩ := List.getElem_of_mem hx
      have := h3 j (by omega)
      simp only [List.getD_eq_getElem?_getD, List.getElem?_eq_getElem hj, Option.getD_some] at this
      exact this hn
end Go.Proofs.Ytmdnjnflmijofaa
