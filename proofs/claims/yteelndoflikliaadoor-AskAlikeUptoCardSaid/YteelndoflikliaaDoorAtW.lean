/- Alike. -/
import Derived.Test.YteelndoflikliaaDoorAtZ
set_option linter.unusedVariables false
set_option linter.unusedSimpArgs false
namespace Go.Proofs.YteelndoflikliaaDoor
open Go.Sx Go.RowKit

theorem kept_of {ns : List Nat} {w w' : World} {l l' : Option Addr} (g : Grew w w' l l') (nb : ∀ b ∈ ns, ∀ y, l = some y → y.block ≠ b) (lt : ∀ b ∈ ns, b < w.heap.size) : Kept ns w w' := fun b hb => g.by_.block b (lt b hb) fun he => by
  cases l with
  | none => cases he
  | some y =>
    have : b = y.block := by simpa [blk] using he
    exact nb b hb y rfl this.symm
theorem nb_of {ns : List Nat} {w w' : World} {l l' : Option Addr} (g : Grew w w' l l') (nb : ∀ b ∈ ns, ∀ y, l = some y → y.block ≠ b) (lt : ∀ b ∈ ns, b < w.heap.size) : ∀ b ∈ ns, ∀ y, l' = some y → y.block ≠ b := fun b hb y hy => by
  rcases g.new with h | h
  · subst hy
    cases l with
    | none => simp [blk] at h
    | some z =>
      have : y.block = z.block := by simpa [blk] using h
      rw [this]; exact nb b hb z rfl
  · have := h y hy
    have := lt b hb
    omega
/-- All atoms lie behind one cell. -/
def JA (W : World) (L : List (List UInt8)) (p : Option Addr) (w : World) : Prop := Ext W w ∧ ∃ (l : Option Addr) (ll lc : Nat), Go.Sx.cell w p 0 = some (.slice l ll lc) ∧ OwnT W.heap.size w l ll lc L
theorem fin_all {W w : World} {ns : List Nat} {pb : Nat} {l : Option Addr} {ll lc : Nat} {L : List (List UInt8)} {e : TypeId} (x : Ext W w) (o : Own W.heap.size w e 1 (some ⟨pb, 0, none⟩) 1 1 [.slice none 0 0]) (oL : OwnT W.heap.size w l ll lc L)
    (ap : Apart l (some ⟨pb, 0, none⟩)) (hb : ∀ b ∈ ns, pb ≠ b) : Store w (some ⟨pb, 0, none⟩) [.slice l ll lc] ns fun w' => JA W L (some ⟨pb, 0, none⟩) w' :=
  store_own (off := 0) o (map_add0 _) (by simp) (by simp) (by simp [Value.oneCell']) (fun b hb' y hy => by obtain rfl := Option.some.inj hy; exact hb b hb') fun w' o' g => ⟨g.ext x o, l, ll, lc, o'.cells 0 _ rfl, oL.st ap g⟩

theorem errC_A {t : AT} (h : errC t = 0) : errA t = 0 := by
  unfold errC at h; split at h
  · omega
  · exact h

theorem Alike_k (x y : AT) (p q : Option Addr) (c d : Nat) (w : World) (g : GP w) (hX : IsT w x p c) (hY : IsT w y q d) (wx : WfA x) (wy : WfA y) (hN : nod x + nod y ≤ 1099511627776) :
    FnP Tryd.prog F_ask_Alike #[av x p c, av y q d] w fun v w' => Ext w w' ∧ ∃ (b : Bool) (e : Int), v = .tuple #[.bool b, .int .i64 e] ∧
      ((errC x ≠ 0 ∧ e = errC x ∧ b = false) ∨ (errC x = 0 ∧ errC y ≠ 0 ∧ e = errC y ∧ b = false) ∨ (errC x = 0 ∧ errC y = 0 ∧
        ((12 < (ats y (ats x [])).length ∧ e = 2 ∧ b = false) ∨ ((ats y (ats x [])).length ≤ 12 ∧ e = 0 ∧ (b = true ↔ ∀ s : Nat, s < 2 ^ (ats y (ats x [])).length → valA (atS (ats y (ats x [])) s) x = valA (atS (ats y (ats x [])) s) y))))) := by
  refine ok_ask_Alike x.k x.key x.val x.n p x.xs.length c y.k y.key y.val y.n q y.xs.length d w _ fun b0 _ b1 _ w2 x2 => ?_
  refine run_lit elem_sl_Ask [av x p c, av y q d] rfl rfl (by intro v hv; simp at hv; rcases hv with rfl | rfl <;> rfl) (by omega) (by omega) fun w3 o3 e3 => ⟨e3, _, _, _, rfl, ?_⟩
  have hx2 := extB_ext x2
  have hx3 := hx2.trans e3
  have cc := (o3 0 (Nat.zero_le _)).cells
  simp [Value.cells] at cc
  have np : (some (⟨w2.heap.size, 0, none⟩ : Addr)) ≠ none := by simp
  generalize (some (⟨w2.heap.size, 0, none⟩ : Addr)) = lt at cc np ⊢
  refine ⟨fun k w' => w' = w3 ∧ 0 ≤ k ∧ k ≤ 2 ∧ (0 < k → errC x = 0) ∧ (1 < k → errC y = 0), fun k _ => (2 - k).toNat, ⟨rfl, by omega, by omega, fun h => by omega, fun h => by omega⟩, ?_⟩
  rintro k w9 ⟨rfl, hk0, hk2, hex0, hey0⟩
  refine ⟨fun hlt => ?_, fun hge => ?_⟩
  · have hlt : k < 2 := by simpa using hlt
    have hk : k = 0 ∨ k = 1 := by omega
    rcases hk with rfl | rfl
    · have h0 : ∀ (i : Nat) v, (encA x p c)[i]? = some v → Go.Sx.cell w9 (pIdx lt 0 5) i = some v := fun i v hv => by
        rw [cell_pIdx]
        refine cc _ _ ?_
        match i, hv with
        | 0, hv | 1, hv | 2, hv | 3, hv | 4, hv => exact hv
      have h00 := h0 0 _ rfl
      refine ⟨np, by omega, by simp, cell_p h00, _, h00, _, h0 1 _ rfl, _, h0 2 _ rfl, _, h0 3 _ rfl, _, _, _, h0 4 _ rfl, fun b17 _ w18 h18 => (Check_k x p c w18 (hX.ext (hx3.trans h18)) wx).mono fun v w19 ⟨e19, hv⟩ => ⟨e19, _, hv, fun hn w21 h21 => ⟨hx3.trans h21, _, _, rfl, .inl ⟨hn, rfl, rfl⟩⟩, fun hz => ⟨i64 (by omega), ⟨rfl, by omega, by omega, fun _ => hz, fun h => by omega⟩, by simp⟩⟩⟩
    · have h0 : ∀ (i : Nat) v, (encA y q d)[i]? = some v → Go.Sx.cell w9 (pIdx lt 1 5) i = some v := fun i v hv => by
        rw [cell_pIdx]
        refine cc _ _ ?_
        match i, hv with
        | 0, hv | 1, hv | 2, hv | 3, hv | 4, hv => exact hv
      have h00 := h0 0 _ rfl
      refine ⟨np, by omega, by simp, cell_p h00, _, h00, _, h0 1 _ rfl, _, h0 2 _ rfl, _, h0 3 _ rfl, _, _, _, h0 4 _ rfl, fun b17 _ w18 h18 => (Check_k y q d w18 (hY.ext (hx3.trans h18)) wy).mono fun v w19 ⟨e19, hv⟩ => ⟨e19, _, hv, fun hn w21 h21 => ⟨hx3.trans h21, _, _, rfl, .inr (.inl ⟨hex0 (by omega), hn, rfl, rfl⟩)⟩, fun hz => ⟨i64 (by omega), ⟨rfl, by omega, by omega, fun _ => hex0 (by omega), fun _ => hz⟩, by simp⟩⟩⟩
  have hge : (2 : Int) ≤ k := by simpa using hge
  have cx := hex0 (by omega)
  have cy := hey0 (by omega)
  have hex := errC_A cx
  have hey := errC_A cy
  have x9 := hx3
  have hNy : (ats x []).length + nod y ≤ 1099511627776 := by have := ats_len x []; simp at this; omega
  refine ⟨JA w (ats y (ats x [])), ⟨⟨?_, ?_⟩, ?_, ?_⟩, ?_⟩
  rotate_left 4
  · rintro all w12 ⟨x12, l, ll, lc, hcell, oL⟩
    have memx : ∀ a ∈ lv x, a ∈ ats y (ats x []) := fun a ha => (ats_mem y _ a).2 (.inl ((ats_mem x _ a).2 (.inr ha)))
    have memy : ∀ a ∈ lv y, a ∈ ats y (ats x []) := fun a ha => (ats_mem y _ a).2 (.inr ha)
    generalize ats y (ats x []) = L at oL memx memy ⊢
    obtain rfl : L.length = ll := oL.leni
    refine ⟨l, L.length, lc, hcell, fun hbig w16 h16 => ⟨x12.trans h16, false, 2, rfl, .inr (.inr ⟨cx, cy, .inl ⟨by omega, rfl, rfl⟩⟩)⟩, fun hle => ⟨l, L.length, lc, hcell, by omega, ?_⟩⟩
    have hL12 : L.length ≤ 12 := by omega
    have hshl : ∀ m : Nat, m < 13 → iBit .shl .i64 1 (m : Int) = ((2 ^ m : Nat) : Int) := by decide
    rw [hshl L.length (by omega)]
    have hp : 2 ^ L.length ≤ 2 ^ 12 := Nat.pow_le_pow_right (by omega) hL12
    have hp : 2 ^ L.length ≤ 4096 := hp
    generalize hpw : 2 ^ L.length = pw at hp ⊢
    refine ⟨fun k w' => Ext w12 w' ∧ 0 ≤ k ∧ k ≤ (pw : Int) ∧ ∀ s : Nat, (s : Int) < k → valA (atS L s) x = valA (atS L s) y, fun k _ => (pw - k).toNat, ⟨Ext.refl _, by omega, by omega, fun s hs => by omega⟩, ?_⟩
    rintro k w21 ⟨x21, hk0, hk1, hall⟩
    refine ⟨fun hlt w22 x22 => new_own (by simp [Value.oneCell']) fun w23 o23 e23 => ?_, fun hge w22 h22 => ⟨(x12.trans x21).trans h22, true, 0, rfl, .inr (.inr ⟨cx, cy, .inr ⟨hL12, rfl, by simp only [true_iff]; exact fun s hs => hall s (by omega)⟩⟩)⟩⟩
    have e22 := extB_ext x22
    have hx22 := x21.trans e22
    have o23 := o23 w12.heap.size hx22.size
    have hpn : (some (⟨w22.heap.size, 0, none⟩ : Addr)) ≠ none := by simp
    refine store_own (off := 0) o23 (map_add0 _) (by simp) (by simp) (by simp [Value.oneCell']) (fun b hb y' hy => by obtain rfl := Option.some.inj hy; have := x22.lt b hb; show w22.heap.size ≠ b; omega) fun w24 o24 g24 => fun w25 h25 => ?_
    have hx24 : Ext w12 w24 := g24.ext (hx22.trans e23) o23
    have hxx : Ext w w24 := x12.trans hx24
    have hs24 : Go.Sx.cell w24 (some ⟨w22.heap.size, 0, none⟩) 0 = some (.int .i64 k) := o24.cells 0 _ rfl
    have hPr : ∀ t : AT, (∀ a ∈ lv t, a ∈ L) → ∀ z ∈ t.xs, ∀ a ∈ lv z, a ∈ L := fun t ht z hz a ha => ht a (lv_sub hz a ha)
    have hf : ∀ (z : AT) (p : Option Addr) (c : Nat) (w' : World), Ext w24 w' → IsT w' z p c → errA z = 0 → z.k < 4 → (∀ a ∈ lv z, a ∈ L) → FnVP Tryd.prog (.func (.func 25) #[] #[(.pointer (some ⟨w22.heap.size, 0, none⟩)), (.pointer all)]) [av z p c] w' fun v w'' => Ext w' w'' ∧ v = .bool (atS L k z) := fun z p c w' h' hT hz hzk hzm =>
      ⟨F_ask_Alike_1, #[(.pointer (some ⟨w22.heap.size, 0, none⟩)), (.pointer all)], rfl, closure_k L hL12 k ⟨hk0, by omega⟩ _ all l lc z p c w' (g.ext (hxx.trans h')) hT hz hzk hzm (ext_cell h' hs24) (ext_cell (hx24.trans h') hcell) (oL.cells.ext (hx24.trans h'))⟩
    refine (value_kP (Pr := fun t => ∀ a ∈ lv t, a ∈ L) hPr hf x p c w25 h25 (hX.ext (hxx.trans h25)) hex memx).mono fun v w26 ⟨e26, hv⟩ => ⟨e26, _, hv, fun w28 h28 => (value_kP (Pr := fun t => ∀ a ∈ lv t, a ∈ L) hPr hf y q d w28 h28 (hY.ext (hxx.trans h28)) hey memy).mono fun v w29 ⟨e29, hv⟩ => ⟨e29, _, hv, fun hdiff w31 h31 => ⟨hxx.trans h31, false, 0, rfl, .inr (.inr ⟨cx, cy, .inr ⟨hL12, rfl, by simp, fun hh => ?_⟩⟩)⟩, fun hsame => ⟨i64 (by omega), ⟨hx24, by omega, by omega, fun s hs => ?_⟩, by simp only []; omega⟩⟩⟩
    · have := hh k.toNat (by omega)
      rw [show ((k.toNat : Nat) : Int) = k by omega] at this
      rcases hdiff with ⟨h1, h2⟩ | ⟨h1, h2⟩
      · rw [h1, h2] at this; cases this
      · rw [h1, h2] at this; cases this
    · by_cases hsk : (s : Int) < k
      · exact hall s hsk
      · have : (s : Int) = k := by omega
        rw [this]
        cases h1 : valA (atS L k) x <;> cases h2 : valA (atS L k) y
        · rfl
        · rw [h1, h2] at hsame; simp at hsame
        · rw [h1, h2] at hsame; simp at hsame
        · rfl
  · intro w13 x13
    have e13 := extB_ext x13
    have hx13 := x9.trans e13
    refine (atoms_k w g x p c hX hex [] (by simp; omega) none 0 0 w13 hx13 Own.nil).mono fun v w14 ⟨l1, m1, c1, hv, o14, g14⟩ => ⟨kept_of g14 (fun b _ y hy => by cases hy) x13.lt, l1, m1, c1, hv, fun w18 x18 => ?_, fun w18 x18 => ?_⟩
    all_goals have nb1 := nb_of g14 (fun b _ y hy => by cases hy) x13.lt
    all_goals have e18 := extB_ext x18
    all_goals have hx18 := (g14.ext hx13 (Own.nil (e := T_string) (s := 1))).trans e18
    · refine (atoms_k w g y q d hY hey (ats x []) hNy l1 m1 c1 w18 hx18 (o14.ext e18)).mono fun v w19 ⟨l2, m2, c2, hv, o19, g19⟩ => ⟨kept_of g19 nb1 x18.lt, l2, m2, c2, hv, fun w23 x23 => new_own (by simp [Value.oneCell']) fun w24 o24 e24 => ?_⟩
      have e23 := extB_ext x23
      have hx19 := g19.ext hx18 (o14.ext e18)
      have ob := o24 w.heap.size (hx19.trans e23).size
      have oL := (o19.ext e23).ext e24
      exact fin_all ((hx19.trans e23).trans e24) ob oL (fun a b ha hb he => by
        obtain rfl := Option.some.inj hb
        have h1 := ((o19.ext e23).lt a ha).2
        have h2 : a.block = w23.heap.size := he
        omega) (fun b hb => by have := x23.lt b hb; omega)
    · refine new_own (by simp [Value.oneCell']) fun w19 o19 e19 => fun w20 x20 => ?_
      have e20 := extB_ext x20
      have ob := (o19 w.heap.size hx18.size).ext e20
      have o20 := ((o14.ext e18).ext e19).ext e20
      refine (atoms_k w g y q d hY hey (ats x []) hNy l1 m1 c1 w20 ((hx18.trans e19).trans e20) o20).mono fun v w21 ⟨l2, m2, c2, hv, o21, g21⟩ => ⟨kept_of g21 nb1 x20.lt, l2, m2, c2, hv, ?_⟩
      have ap1 : Apart (some (⟨w18.heap.size, 0, none⟩ : Addr)) l1 := fun a b ha hb he => by
        obtain rfl := Option.some.inj ha
        have h1 := ((o14.ext e18).lt b hb).2
        have h2 : w18.heap.size = b.block := he
        omega
      exact fin_all (g21.ext ((hx18.trans e19).trans e20) o20) (ob.st ap1 g21) o21 (ap1.grew ob g21).symm (fun b hb => by have := x18.lt b hb; omega)
  · intro w13 x13
    have e13 := extB_ext x13
    refine new_own (by simp [Value.oneCell']) fun w14 o14 e14 => ?_
    have hx14 := (x9.trans e13).trans e14
    have ob := o14 w.heap.size (x9.trans e13).size
    intro w15 x15
    have e15 := extB_ext x15
    have ob15 := ob.ext e15
    have hx15 := hx14.trans e15
    refine (atoms_k w g x p c hX hex [] (by simp; omega) none 0 0 w15 hx15 Own.nil).mono fun v w16 ⟨l1, m1, c1, hv, o16, g16⟩ => ⟨kept_of g16 (fun b _ y hy => by cases hy) x15.lt, l1, m1, c1, hv, fun w20 x20 => ?_⟩
    have nb1 := nb_of g16 (fun b _ y hy => by cases hy) x15.lt
    have e20 := extB_ext x20
    have hx20 := (g16.ext hx15 (Own.nil (e := T_string) (s := 1))).trans e20
    have ob16 := ob15.st Apart.nil g16
    have ap16 := Apart.grew Apart.nil ob15 g16
    refine (atoms_k w g y q d hY hey (ats x []) hNy l1 m1 c1 w20 hx20 (o16.ext e20)).mono fun v w21 ⟨l2, m2, c2, hv, o21, g21⟩ => ⟨kept_of g21 nb1 x20.lt, l2, m2, c2, hv, ?_⟩
    exact fin_all (g21.ext hx20 (o16.ext e20)) ((ob16.ext e20).st ap16 g21) o21 (ap16.grew (ob16.ext e20) g21).symm (fun b hb => by have := x13.lt b hb; omega)
  · intro w13 x13
    have e13 := extB_ext x13
    have hx13 := x9.trans e13
    refine (atoms_k w g x p c hX hex [] (by simp; omega) none 0 0 w13 hx13 Own.nil).mono fun v w14 ⟨l1, m1, c1, hv, o14, g14⟩ => ⟨kept_of g14 (fun b _ y hy => by cases hy) x13.lt, l1, m1, c1, hv, fun w18 x18 => ?_, fun w18 x18 => ?_⟩
    all_goals have nb1 := nb_of g14 (fun b _ y hy => by cases hy) x13.lt
    all_goals have e18 := extB_ext x18
    all_goals have hx18 := (g14.ext hx13 (Own.nil (e := T_string) (s := 1))).trans e18
    · refine (atoms_k w g y q d hY hey (ats x []) hNy l1 m1 c1 w18 hx18 (o14.ext e18)).mono fun v w19 ⟨l2, m2, c2, hv, o19, g19⟩ => ⟨kept_of g19 nb1 x18.lt, l2, m2, c2, hv, fun w23 x23 => new_own (by simp [Value.oneCell']) fun w24 o24 e24 => ?_⟩
      have e23 := extB_ext x23
      have hx19 := g19.ext hx18 (o14.ext e18)
      have ob := o24 w.heap.size (hx19.trans e23).size
      have oL := (o19.ext e23).ext e24
      exact fin_all ((hx19.trans e23).trans e24) ob oL (fun a b ha hb he => by
        obtain rfl := Option.some.inj hb
        have h1 := ((o19.ext e23).lt a ha).2
        have h2 : a.block = w23.heap.size := he
        omega) (fun b hb => by have := x23.lt b hb; omega)
    · refine new_own (by simp [Value.oneCell']) fun w19 o19 e19 => fun w20 x20 => ?_
      have e20 := extB_ext x20
      have ob := (o19 w.heap.size hx18.size).ext e20
      have o20 := ((o14.ext e18).ext e19).ext e20
      refine (atoms_k w g y q d hY hey (ats x []) hNy l1 m1 c1 w20 ((hx18.trans e19).trans e20) o20).mono fun v w21 ⟨l2, m2, c2, hv, o21, g21⟩ => ⟨kept_of g21 nb1 x20.lt, l2, m2, c2, hv, ?_⟩
      have ap1 : Apart (some (⟨w18.heap.size, 0, none⟩ : Addr)) l1 := fun a b ha hb he => by
        obtain rfl := Option.some.inj ha
        have h1 := ((o14.ext e18).lt b hb).2
        have h2 : w18.heap.size = b.block := he
        omega
      exact fin_all (g21.ext ((hx18.trans e19).trans e20) o20) (ob.st ap1 g21) o21 (ap1.grew ob g21).symm (fun b hb => by have := x18.lt b hb; omega)
  · intro w13 x13
    have e13 := extB_ext x13
    refine new_own (by simp [Value.oneCell']) fun w14 o14 e14 => ?_
    have hx14 := (x9.trans e13).trans e14
    have ob := o14 w.heap.size (x9.trans e13).size
    refine ⟨?_, ?_⟩
    · intro w15 x15
      have e15 := extB_ext x15
      have ob15 := ob.ext e15
      have hx15 := hx14.trans e15
      refine (atoms_k w g x p c hX hex [] (by simp; omega) none 0 0 w15 hx15 Own.nil).mono fun v w16 ⟨l1, m1, c1, hv, o16, g16⟩ => ⟨kept_of g16 (fun b _ y hy => by cases hy) x15.lt, l1, m1, c1, hv, fun w20 x20 => ?_⟩
      have nb1 := nb_of g16 (fun b _ y hy => by cases hy) x15.lt
      have e20 := extB_ext x20
      have hx20 := (g16.ext hx15 (Own.nil (e := T_string) (s := 1))).trans e20
      have ob16 := ob15.st Apart.nil g16
      have ap16 := Apart.grew Apart.nil ob15 g16
      refine (atoms_k w g y q d hY hey (ats x []) hNy l1 m1 c1 w20 hx20 (o16.ext e20)).mono fun v w21 ⟨l2, m2, c2, hv, o21, g21⟩ => ⟨kept_of g21 nb1 x20.lt, l2, m2, c2, hv, ?_⟩
      exact fin_all (g21.ext hx20 (o16.ext e20)) ((ob16.ext e20).st ap16 g21) o21 (ap16.grew (ob16.ext e20) g21).symm (fun b hb => by have := x13.lt b hb; omega)
    · intro w15 x15
      have e15 := extB_ext x15
      have ob15 := ob.ext e15
      have hx15 := hx14.trans e15
      refine (atoms_k w g x p c hX hex [] (by simp; omega) none 0 0 w15 hx15 Own.nil).mono fun v w16 ⟨l1, m1, c1, hv, o16, g16⟩ => ⟨kept_of g16 (fun b _ y hy => by cases hy) x15.lt, l1, m1, c1, hv, fun w20 x20 => ?_⟩
      have nb1 := nb_of g16 (fun b _ y hy => by cases hy) x15.lt
      have e20 := extB_ext x20
      have hx20 := (g16.ext hx15 (Own.nil (e := T_string) (s := 1))).trans e20
      have ob16 := ob15.st Apart.nil g16
      have ap16 := Apart.grew Apart.nil ob15 g16
      refine (atoms_k w g y q d hY hey (ats x []) hNy l1 m1 c1 w20 hx20 (o16.ext e20)).mono fun v w21 ⟨l2, m2, c2, hv, o21, g21⟩ => ⟨kept_of g21 nb1 x20.lt, l2, m2, c2, hv, ?_⟩
      exact fin_all (g21.ext hx20 (o16.ext e20)) ((ob16.ext e20).st ap16 g21) o21 (ap16.grew (ob16.ext e20) g21).symm (fun b hb => by have := x13.lt b hb; omega)
end Go.Proofs.YteelndoflikliaaDoor
