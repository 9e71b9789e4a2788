/- Assignment: one more of the people gets a job: its walk. -/
import Derived.Test.YtlacdincnpbpdaaAsP
set_option linter.unusedVariables false
set_option linter.unusedSimpArgs false
namespace Go.Proofs.Ytlacdincnpbpdaa
open Go.Sx Go.RowKit

abbrev Pb (b : Nat) : Option Addr := some ⟨b, 0, none⟩
abbrev g0 (X : List Int) (i : Int) : Int := X.getD i.toNat 0
theorem ap {a b : Nat} (h : a ≠ b) : Apart (Pb a) (Pb b) := fun x y hx hy => by
  obtain rfl := Option.some.inj hx; obtain rfl := Option.some.inj hy; simpa using h
theorem g0_set {X : List Int} {i k x : Int} (h0 : 0 ≤ i) (h1 : i < X.length) (hk : 0 ≤ k) : g0 (X.set i.toNat x) k = if k = i then x else g0 X k := by
  unfold g0
  rw [getD_set _ _ _ _ _ (by omega)]
  by_cases h : k = i
  · rw [if_pos h, if_pos (by omega)]
  · rw [if_neg h, if_neg (by omega)]
theorem s0_set {X : List Bool} {i k : Int} {x : Bool} (h0 : 0 ≤ i) (h1 : i < X.length) (hk : 0 ≤ k) : (X.set i.toNat x).getD k.toNat false = if k = i then x else X.getD k.toNat false := by
  rw [getD_set _ _ _ _ _ (by omega)]
  by_cases h : k = i
  · rw [if_pos h, if_pos (by omega)]
  · rw [if_neg h, if_neg (by omega)]

/-- Rows of costs. -/
structure Rows2 (w : World) (pc : Option Addr) (n : Nat) (C : List (List Int)) : Prop where
  len : C.length = n
  row : ∀ i : Nat, i < n → (C.getD i []).length = n ∧ ∃ p d, cell w pc i = some (.slice p n d) ∧ Ints .i64 w p (C.getD i [])
theorem Rows2.ext {w w' : World} {pc : Option Addr} {n : Nat} {C : List (List Int)} (h : Rows2 w pc n C) (he : Ext w w') : Rows2 w' pc n C :=
  ⟨h.len, fun i hi => by obtain ⟨h1, p, d, h2, h3⟩ := h.row i hi; exact ⟨h1, p, d, ext_cell he h2, h3.ext he⟩⟩
def cst (C : List (List Int)) (r k : Int) : Int := (C.getD (r - 1).toNat []).getD (k - 1).toNat 0
def okC (n : Nat) (C : List (List Int)) : Prop := n ≤ 12 ∧ ∀ r k, 1 ≤ r → r ≤ (n : Int) → 1 ≤ k → k ≤ (n : Int) → -1000000000 ≤ cst C r k ∧ cst C r k ≤ 1000000000

structure Ids where
  s : Nat
  u : Nat
  v : Nat
  b : Nat

structure MemS (B : Nat) (w : World) (I : Ids) (pc : Option Addr) (n cc : Nat) (U V Bl : List Int) : Prop where
  os : Own B w T_assign_solver 4 (Pb I.s) 1 1 [.slice pc n cc, .slice (Pb I.u) (n + 1) (n + 1), .slice (Pb I.v) (n + 1) (n + 1), .slice (Pb I.b) (n + 1) (n + 1)]
  ou : Own B w T_int64 1 (Pb I.u) (n + 1) (n + 1) (U.map (.int .i64))
  ov : Own B w T_int64 1 (Pb I.v) (n + 1) (n + 1) (V.map (.int .i64))
  ob : Own B w T_int 1 (Pb I.b) (n + 1) (n + 1) (Bl.map (.int .i64))
  su : I.s ≠ I.u
  sv : I.s ≠ I.v
  sb : I.s ≠ I.b
  uv : I.u ≠ I.v
  ub : I.u ≠ I.b
  vb : I.v ≠ I.b

structure Mem7 (B : Nat) (w : World) (I : Ids) (il i_f i_n : Nat) (pc : Option Addr) (n cc : Nat) (U V Bl L F : List Int) (Sn : List Bool) : Prop extends MemS B w I pc n cc U V Bl where
  ol : Own B w T_int64 1 (Pb il) (n + 1) (n + 1) (L.map (.int .i64))
  of : Own B w T_int 1 (Pb i_f) (n + 1) (n + 1) (F.map (.int .i64))
  on : Own B w T_bool 1 (Pb i_n) (n + 1) (n + 1) (Sn.map .bool)
  d : ∀ x ∈ [I.s, I.u, I.v, I.b], x ≠ il ∧ x ≠ i_f ∧ x ≠ i_n
  lf : il ≠ i_f
  ln : il ≠ i_n
  fn : i_f ≠ i_n

section
variable {B : Nat} {w w' : World} {I : Ids} {pc : Option Addr} {n cc : Nat} {U V Bl L F : List Int} {Sn : List Bool} {il i_f i_n : Nat}

theorem MemS.setB (M : MemS B w I pc n cc U V Bl) {X : List Int} (o : Own B w' T_int 1 (Pb I.b) (n + 1) (n + 1) (X.map (.int .i64))) (g : Grew w w' (Pb I.b) (Pb I.b)) : MemS B w' I pc n cc U V X :=
  ⟨M.os.st (ap M.sb) g, M.ou.st (ap M.ub) g, M.ov.st (ap M.vb) g, o, M.su, M.sv, M.sb, M.uv, M.ub, M.vb⟩
theorem MemS.ext (M : MemS B w I pc n cc U V Bl) (h : Ext w w') : MemS B w' I pc n cc U V Bl :=
  ⟨M.os.ext h, M.ou.ext h, M.ov.ext h, M.ob.ext h, M.su, M.sv, M.sb, M.uv, M.ub, M.vb⟩
theorem Mem7.setB (M : Mem7 B w I il i_f i_n pc n cc U V Bl L F Sn) {X : List Int} (o : Own B w' T_int 1 (Pb I.b) (n + 1) (n + 1) (X.map (.int .i64))) (g : Grew w w' (Pb I.b) (Pb I.b)) : Mem7 B w' I il i_f i_n pc n cc U V X L F Sn :=
  have d := M.d I.b (by simp)
  ⟨M.toMemS.setB o g, M.ol.st (ap d.1.symm) g, M.of.st (ap d.2.1.symm) g, M.on.st (ap d.2.2.symm) g, M.d, M.lf, M.ln, M.fn⟩
theorem Mem7.setU (M : Mem7 B w I il i_f i_n pc n cc U V Bl L F Sn) {X : List Int} (o : Own B w' T_int64 1 (Pb I.u) (n + 1) (n + 1) (X.map (.int .i64))) (g : Grew w w' (Pb I.u) (Pb I.u)) : Mem7 B w' I il i_f i_n pc n cc X V Bl L F Sn :=
  have d := M.d I.u (by simp)
  ⟨⟨M.os.st (ap M.su) g, o, M.ov.st (ap M.uv.symm) g, M.ob.st (ap M.ub.symm) g, M.su, M.sv, M.sb, M.uv, M.ub, M.vb⟩, M.ol.st (ap d.1.symm) g, M.of.st (ap d.2.1.symm) g, M.on.st (ap d.2.2.symm) g, M.d, M.lf, M.ln, M.fn⟩
theorem Mem7.setV (M : Mem7 B w I il i_f i_n pc n cc U V Bl L F Sn) {X : List Int} (o : Own B w' T_int64 1 (Pb I.v) (n + 1) (n + 1) (X.map (.int .i64))) (g : Grew w w' (Pb I.v) (Pb I.v)) : Mem7 B w' I il i_f i_n pc n cc U X Bl L F Sn :=
  have d := M.d I.v (by simp)
  ⟨⟨M.os.st (ap M.sv) g, M.ou.st (ap M.uv) g, o, M.ob.st (ap M.vb.symm) g, M.su, M.sv, M.sb, M.uv, M.ub, M.vb⟩, M.ol.st (ap d.1.symm) g, M.of.st (ap d.2.1.symm) g, M.on.st (ap d.2.2.symm) g, M.d, M.lf, M.ln, M.fn⟩
theorem MemS.aside (M : MemS B w I pc n cc U V Bl) {x : Nat} (h : ∀ y ∈ [I.s, I.u, I.v, I.b], y ≠ x) (g : Grew w w' (Pb x) (Pb x)) : MemS B w' I pc n cc U V Bl :=
  ⟨M.os.st (ap (h _ (by simp))) g, M.ou.st (ap (h _ (by simp))) g, M.ov.st (ap (h _ (by simp))) g, M.ob.st (ap (h _ (by simp))) g, M.su, M.sv, M.sb, M.uv, M.ub, M.vb⟩
theorem Mem7.setL (M : Mem7 B w I il i_f i_n pc n cc U V Bl L F Sn) {X : List Int} (o : Own B w' T_int64 1 (Pb il) (n + 1) (n + 1) (X.map (.int .i64))) (g : Grew w w' (Pb il) (Pb il)) : Mem7 B w' I il i_f i_n pc n cc U V Bl X F Sn :=
  ⟨M.toMemS.aside (fun y hy => (M.d y hy).1) g, o, M.of.st (ap M.lf.symm) g, M.on.st (ap M.ln.symm) g, M.d, M.lf, M.ln, M.fn⟩
theorem Mem7.setF (M : Mem7 B w I il i_f i_n pc n cc U V Bl L F Sn) {X : List Int} (o : Own B w' T_int 1 (Pb i_f) (n + 1) (n + 1) (X.map (.int .i64))) (g : Grew w w' (Pb i_f) (Pb i_f)) : Mem7 B w' I il i_f i_n pc n cc U V Bl L X Sn :=
  ⟨M.toMemS.aside (fun y hy => (M.d y hy).2.1) g, M.ol.st (ap M.lf) g, o, M.on.st (ap M.fn.symm) g, M.d, M.lf, M.ln, M.fn⟩
theorem Mem7.setN (M : Mem7 B w I il i_f i_n pc n cc U V Bl L F Sn) {X : List Bool} (o : Own B w' T_bool 1 (Pb i_n) (n + 1) (n + 1) (X.map .bool)) (g : Grew w w' (Pb i_n) (Pb i_n)) : Mem7 B w' I il i_f i_n pc n cc U V Bl L F X :=
  ⟨M.toMemS.aside (fun y hy => (M.d y hy).2.2) g, M.ol.st (ap M.ln) g, M.of.st (ap M.fn) g, o, M.d, M.lf, M.ln, M.fn⟩

theorem MemS.c0 (M : MemS B w I pc n cc U V Bl) : cell w (pAdd (Pb I.s) 0) 0 = some (.slice pc n cc) := by rw [cell_pAdd]; exact M.os.cells 0 _ rfl
theorem MemS.c1 (M : MemS B w I pc n cc U V Bl) : cell w (pAdd (Pb I.s) 1) 0 = some (.slice (Pb I.u) (n + 1) (n + 1)) := by rw [cell_pAdd]; exact M.os.cells 1 _ rfl
theorem MemS.c2 (M : MemS B w I pc n cc U V Bl) : cell w (pAdd (Pb I.s) 2) 0 = some (.slice (Pb I.v) (n + 1) (n + 1)) := by rw [cell_pAdd]; exact M.os.cells 2 _ rfl
theorem MemS.c3 (M : MemS B w I pc n cc U V Bl) : cell w (pAdd (Pb I.s) 3) 0 = some (.slice (Pb I.b) (n + 1) (n + 1)) := by rw [cell_pAdd]; exact M.os.cells 3 _ rfl
theorem MemS.lu (M : MemS B w I pc n cc U V Bl) : U.length = n + 1 ∧ V.length = n + 1 ∧ Bl.length = n + 1 := ⟨M.ou.leni, M.ov.leni, M.ob.leni⟩
end

open Classical in
noncomputable def cntF (w : World) (p : Option Addr) (n : Nat) : Nat := ((List.range (n + 1)).filter fun k => decide (cell w p k = some (.bool false))).length
theorem filter_lt {p q : Nat → Bool} : ∀ {l : List Nat} {a : Nat}, (∀ x ∈ l, q x = true → p x = true) → a ∈ l → p a = true → q a = false → (l.filter q).length < (l.filter p).length
  | [], _, _, ha, _, _ => by cases ha
  | x :: l, a, h, ha, hp, hq => by
    have hle : (l.filter q).length ≤ (l.filter p).length := by
      have h' : ∀ y ∈ l, q y = true → p y = true := fun y hy => h y (List.mem_cons_of_mem _ hy)
      clear h ha
      induction l with
      | nil => simp
      | cons y l ih =>
        have i1 := ih fun z hz => h' z (List.mem_cons_of_mem _ hz)
        have i2 := h' y (List.mem_cons_self ..)
        simp only [List.filter_cons]
        cases hqy : q y <;> cases hpy : p y <;> simp_all <;> omega
    rcases List.mem_cons.1 ha with rfl | ha'
    · simp only [List.filter_cons, hp, hq, if_true]
      simp; omega
    · have ih := filter_lt (p := p) (q := q) (fun y hy => h y (List.mem_cons_of_mem _ hy)) ha' hp hq
      have i2 := h x (List.mem_cons_self ..)
      simp only [List.filter_cons]
      cases hqx : q x <;> cases hpx : p x <;> simp_all <;> omega
theorem cntF_lt {B : Nat} {w w' : World} {b n : Nat} {Sn : List Bool} (o : Own B w T_bool 1 (Pb b) (n + 1) (n + 1) (Sn.map .bool)) {a : Int} (h0 : 0 ≤ a) (h1 : a ≤ n) (hf : Sn.getD a.toNat false = false)
    (o' : Own B w' T_bool 1 (Pb b) (n + 1) (n + 1) ((Sn.set a.toNat true).map .bool)) : cntF w' (Pb b) n < cntF w (Pb b) n := by
  classical
  have hl := o.leni
  have at1 : ∀ x : Nat, x < n + 1 → cell w (Pb b) x = some (.bool (Sn.getD x false)) := fun x hx => by
    have := o.bool_at (i := (x : Int)) (by omega) (by omega)
    rw [cell_pIdx] at this
    simpa using this
  have at2 : ∀ x : Nat, x < n + 1 → cell w' (Pb b) x = some (.bool ((Sn.set a.toNat true).getD x false)) := fun x hx => by
    have := o'.bool_at (i := (x : Int)) (by omega) (by simp; omega)
    rw [cell_pIdx] at this
    simpa using this
  unfold cntF
  refine filter_lt (a := a.toNat) (fun x hx => ?_) (by simp; omega) ?_ ?_
  · rw [List.mem_range] at hx
    rw [decide_eq_true_iff, decide_eq_true_iff, at1 x hx, at2 x hx, getD_set _ _ _ _ _ (by omega)]
    intro h
    by_cases hxa : x = a.toNat
    · rw [if_pos hxa] at h; simp at h
    · rw [if_neg hxa] at h; exact h
  · rw [decide_eq_true_iff, at1 _ (by omega), hf]
  · rw [decide_eq_false_iff_not, at2 _ (by omega), getD_set _ _ _ _ _ (by omega), if_pos rfl]; simp

def seenP (Sn : List Bool) (k : Int) : Prop := 0 ≤ k ∧ Sn.getD k.toNat false = true
theorem seenP_lt {Sn : List Bool} {k : Int} (h : seenP Sn k) : k < Sn.length := by
  by_cases h' : k < Sn.length
  · exact h'
  · have := h.2
    rw [List.getD_eq_getElem?_getD, List.getElem?_eq_none (by have := h.1; omega)] at this
    simp at this

/-- Behind the three new rows. -/
def J3 (W : World) (I : Ids) (pc : Option Addr) (n cc : Nat) (U V Bl : List Int) (p1 : Option Addr) (n1 c1 : Nat) (p2 : Option Addr) (n2 c2 : Nat) (p3 : Option Addr) (n3 c3 : Nat) (w' : World) : Prop :=
  ∃ l f s, p1 = Pb l ∧ p2 = Pb f ∧ p3 = Pb s ∧ n1 = n + 1 ∧ n2 = n + 1 ∧ n3 = n + 1 ∧ Ext W w' ∧ Mem7 W.heap.size w' I l f s pc n cc U V Bl (List.replicate (n + 1) 0) (List.replicate (n + 1) 0) (List.replicate (n + 1) false)

set_option maxHeartbeats 4000000 in
theorem one_k (W : World) (pc : Option Addr) (n cc : Nat) (C : List (List Int)) (hR : Rows2 W pc n C) (hC : okC n C) (i : Int) (hi : 1 ≤ i) (hin : i ≤ n) (I : Ids) (U V Bl : List Int) (w : World) (hW : Ext W w) (M : MemS W.heap.size w I pc n cc U V Bl)
    (hp : Pot n (i - 1) (cst C) (g0 U) (g0 V) (g0 Bl)) :
    FnP Try.prog F_assign_solver_one #[.pointer (Pb I.s), .int .i64 i] w fun v w' => v = .tuple #[] ∧ Ext W w' ∧ ∃ U' V' Bl', MemS W.heap.size w' I pc n cc U' V' Bl' ∧ Pot n i (cst C) (g0 U') (g0 V') (g0 Bl') := by
  have hn12 := hC.1
  have hcM := hC.2
  have nn : ∀ b, Pb b ≠ none := fun b => by simp
  have hpc : pc ≠ none := by
    obtain ⟨_, p, d, h, _⟩ := hR.row 0 (by omega)
    exact cell_p h
  obtain ⟨lu, lv, lb⟩ := M.lu
  refine ok_assign_solver_one (Pb I.s) i w _ ⟨nn _, nn _, pc, n, cc, M.c0, nn _, nn _, _, _, _, M.c3, nn _, by omega, by omega, ?_⟩
  refine store_int M.ob (by omega) (by omega) (by simp) fun w6 o6 g6 => ?_
  have M6 := M.setB o6 g6
  have hW6 : Ext W w6 := g6.ext hW M.ob
  have b6 : ∀ k : Int, 0 ≤ k → g0 (Bl.set (0 : Int).toNat i) k = if k = 0 then i else g0 Bl k := fun k hk => g0_set (by omega) (by omega) hk
  have lb6 : (Bl.set (0 : Int).toNat i).length = n + 1 := by simp [lb]
  revert M6 b6 lb6
  generalize Bl.set (0 : Int).toNat i = Bl6
  intro M6 b6 lb6
  clear o6 g6 M
  refine ⟨J3 W I pc n cc U V Bl6, ⟨i64 (by omega), i64 (by omega), i64 (by omega), ?_⟩, ?_⟩
  · have fin : ∀ (w' : World) (a b c : Nat), Ext w6 w' → w6.heap.size ≤ a → w6.heap.size ≤ b → w6.heap.size ≤ c → a ≠ b → a ≠ c → b ≠ c →
        Own W.heap.size w' T_int64 1 (Pb a) (n + 1) (n + 1) ((List.replicate (n + 1) 0).map (.int .i64)) → Own W.heap.size w' T_int 1 (Pb b) (n + 1) (n + 1) ((List.replicate (n + 1) 0).map (.int .i64)) → Own W.heap.size w' T_bool 1 (Pb c) (n + 1) (n + 1) ((List.replicate (n + 1) false).map .bool) →
        J3 W I pc n cc U V Bl6 (Pb a) (n + 1) (n + 1) (Pb b) (n + 1) (n + 1) (Pb c) (n + 1) (n + 1) w' := by
      intro w' a b c hx ha hb hc hab hac hbc oa ob oc
      refine ⟨a, b, c, rfl, rfl, rfl, rfl, rfl, rfl, hW6.trans hx, M6.ext hx, oa, ob, oc, fun y hy => ?_, hab, hac, hbc⟩
      have hlt : y < w6.heap.size := by
        simp at hy
        rcases hy with rfl | rfl | rfl | rfl
        · exact (M6.os.lt _ rfl).2
        · exact (M6.ou.lt _ rfl).2
        · exact (M6.ov.lt _ rfl).2
        · exact (M6.ob.lt _ rfl).2
      show y ≠ a ∧ y ≠ b ∧ y ≠ c
      omega
    have s6 := hW6.size
    have en : ((n : Int) + 1).toNat = n + 1 := by omega
    refine ⟨fun w12 h12 => ?_, fun w12 h12 => ?_, fun w12 h12 => ?_⟩
    · refine mk_ints elem_sl_int64 (by omega) (by omega) (by omega) fun w13 o13 e13 => ⟨e13, _, _, _, rfl, fun w17 h17 => ?_, fun w17 h17 => ?_⟩
      all_goals have o13 := ((o13 W.heap.size (by have := h12.size; omega)).ext h17)
      all_goals have s13 := o13.size_lt
      all_goals have s12 := h12.size
      · refine mk_ints elem_sl_int (by omega) (by omega) (by omega) fun w18 o18 e18 => ⟨e18, _, _, _, rfl, fun w22 h22 => ?_⟩
        have o18 := (o18 W.heap.size (by omega)).ext h22
        have s18 := o18.size_lt
        refine mk_bools elem_sl_bool (by omega) (by omega) (by omega) fun w23 o23 e23 => ⟨e23, _, _, _, rfl, ?_⟩
        have o23 := o23 W.heap.size (by omega)
        simp only [en] at o13 o18 o23 ⊢
        exact fin w23 _ _ _ ((((h12.trans e13).trans h17).trans e18).trans (h22.trans e23)) (by omega) (by omega) (by omega) (by omega) (by omega) (by omega) (((o13.ext e18).ext h22).ext e23) (o18.ext e23) o23
      · refine mk_bools elem_sl_bool (by omega) (by omega) (by omega) fun w18 o18 e18 => ⟨e18, _, _, _, rfl, fun w22 h22 => ?_⟩
        have o18 := (o18 W.heap.size (by omega)).ext h22
        have s18 := o18.size_lt
        refine mk_ints elem_sl_int (by omega) (by omega) (by omega) fun w23 o23 e23 => ⟨e23, _, _, _, rfl, ?_⟩
        have o23 := o23 W.heap.size (by omega)
        simp only [en] at o13 o18 o23 ⊢
        exact fin w23 _ _ _ ((((h12.trans e13).trans h17).trans e18).trans (h22.trans e23)) (by omega) (by omega) (by omega) (by omega) (by omega) (by omega) (((o13.ext e18).ext h22).ext e23) o23 (o18.ext e23)
    · refine mk_ints elem_sl_int (by omega) (by omega) (by omega) fun w13 o13 e13 => ⟨e13, _, _, _, rfl, fun w17 h17 => ?_, fun w17 h17 => ?_⟩
      all_goals have o13 := ((o13 W.heap.size (by have := h12.size; omega)).ext h17)
      all_goals have s13 := o13.size_lt
      all_goals have s12 := h12.size
      · refine mk_ints elem_sl_int64 (by omega) (by omega) (by omega) fun w18 o18 e18 => ⟨e18, _, _, _, rfl, fun w22 h22 => ?_⟩
        have o18 := (o18 W.heap.size (by omega)).ext h22
        have s18 := o18.size_lt
        refine mk_bools elem_sl_bool (by omega) (by omega) (by omega) fun w23 o23 e23 => ⟨e23, _, _, _, rfl, ?_⟩
        have o23 := o23 W.heap.size (by omega)
        simp only [en] at o13 o18 o23 ⊢
        exact fin w23 _ _ _ ((((h12.trans e13).trans h17).trans e18).trans (h22.trans e23)) (by omega) (by omega) (by omega) (by omega) (by omega) (by omega) (o18.ext e23) (((o13.ext e18).ext h22).ext e23) o23
      · refine mk_bools elem_sl_bool (by omega) (by omega) (by omega) fun w18 o18 e18 => ⟨e18, _, _, _, rfl, fun w22 h22 => ?_⟩
        have o18 := (o18 W.heap.size (by omega)).ext h22
        have s18 := o18.size_lt
        refine mk_ints elem_sl_int64 (by omega) (by omega) (by omega) fun w23 o23 e23 => ⟨e23, _, _, _, rfl, ?_⟩
        have o23 := o23 W.heap.size (by omega)
        simp only [en] at o13 o18 o23 ⊢
        exact fin w23 _ _ _ ((((h12.trans e13).trans h17).trans e18).trans (h22.trans e23)) (by omega) (by omega) (by omega) (by omega) (by omega) (by omega) o23 (((o13.ext e18).ext h22).ext e23) (o18.ext e23)
    · refine mk_bools elem_sl_bool (by omega) (by omega) (by omega) fun w13 o13 e13 => ⟨e13, _, _, _, rfl, fun w17 h17 => ?_, fun w17 h17 => ?_⟩
      all_goals have o13 := ((o13 W.heap.size (by have := h12.size; omega)).ext h17)
      all_goals have s13 := o13.size_lt
      all_goals have s12 := h12.size
      · refine mk_ints elem_sl_int64 (by omega) (by omega) (by omega) fun w18 o18 e18 => ⟨e18, _, _, _, rfl, fun w22 h22 => ?_⟩
        have o18 := (o18 W.heap.size (by omega)).ext h22
        have s18 := o18.size_lt
        refine mk_ints elem_sl_int (by omega) (by omega) (by omega) fun w23 o23 e23 => ⟨e23, _, _, _, rfl, ?_⟩
        have o23 := o23 W.heap.size (by omega)
        simp only [en] at o13 o18 o23 ⊢
        exact fin w23 _ _ _ ((((h12.trans e13).trans h17).trans e18).trans (h22.trans e23)) (by omega) (by omega) (by omega) (by omega) (by omega) (by omega) (o18.ext e23) o23 (((o13.ext e18).ext h22).ext e23)
      · refine mk_ints elem_sl_int (by omega) (by omega) (by omega) fun w18 o18 e18 => ⟨e18, _, _, _, rfl, fun w22 h22 => ?_⟩
        have o18 := (o18 W.heap.size (by omega)).ext h22
        have s18 := o18.size_lt
        refine mk_ints elem_sl_int64 (by omega) (by omega) (by omega) fun w23 o23 e23 => ⟨e23, _, _, _, rfl, ?_⟩
        have o23 := o23 W.heap.size (by omega)
        simp only [en] at o13 o18 o23 ⊢
        exact fin w23 _ _ _ ((((h12.trans e13).trans h17).trans e18).trans (h22.trans e23)) (by omega) (by omega) (by omega) (by omega) (by omega) (by omega) o23 (o18.ext e23) (((o13.ext e18).ext h22).ext e23)
  rintro p1 n1 c1 p2 n2 c2 p3 n3 c3 w11 ⟨l, f, s, rfl, rfl, rfl, rfl, rfl, rfl, hW11, M11⟩
  clear M6 hW6
  have repF : ∀ k : Nat, (List.replicate (n + 1) false).getD k false = false := fun k => by
    rw [List.getD_eq_getElem?_getD, List.getElem?_replicate]; split <;> rfl
  have hS0 : (fun _ : Int => False) = seenP (List.replicate (n + 1) false) := funext fun k => propext ⟨False.elim, fun h => by have := h.2; rw [repF] at this; cases this⟩
  refine ⟨fun k w' => ∃ L, Ext W w' ∧ Mem7 W.heap.size w' I l f s pc n cc U V Bl6 L (List.replicate (n + 1) 0) (List.replicate (n + 1) false) ∧ 0 ≤ k ∧ k ≤ n + 1 ∧ ∀ j : Int, 0 ≤ j → j < k → g0 L j = 1125899906842624, fun k _ => ((n : Int) + 1 - k).toNat,
    ⟨_, hW11, M11, by omega, by omega, fun j _ _ => by omega⟩, ?_⟩
  clear M11 hW11
  rintro k w14 ⟨L, hWw, M, hk0, hk1, hL⟩
  have lenL := M.ol.leni
  refine ⟨fun hlt => ⟨nn _, hk0, hlt, ?_⟩, fun hge => ?_⟩
  · refine store_int M.ol hk0 (by omega) (by simp) fun w15 o g => ⟨i64 (by omega), ⟨_, g.ext hWw M.ol, M.setL o g, by omega, by omega, fun j h0 h1 => ?_⟩, by simp only []; omega⟩
    rw [g0_set hk0 (by omega) h0]
    by_cases hjk : j = k
    · rw [if_pos hjk]
    · rw [if_neg hjk]; exact hL j h0 (by omega)
  have hmid0 := Pot.mid (b' := g0 Bl6) (low := g0 L) (frm := g0 (List.replicate (n + 1) 0)) (ord := fun _ => 0) hp hi hin (by rw [b6 0 (by omega), if_pos rfl]) (fun k h1 h2 => by rw [b6 k (by omega), if_neg (by omega)]) (fun k h1 h2 => hL k (by omega) (by omega))
  rw [hS0] at hmid0
  clear hS0 hp hL b6
  refine ⟨fun at_ w' => ∃ U V L F Sn ord m, Ext W w' ∧ Mem7 W.heap.size w' I l f s pc n cc U V Bl6 L F Sn ∧ Mid n i (cst C) (g0 U) (g0 V) (g0 Bl6) (g0 L) (g0 F) (seenP Sn) ord m at_, fun _ w' => cntF w' (Pb s) n,
    ⟨U, V, L, _, _, _, _, hWw, M, hmid0⟩, ?_⟩
  clear hmid0 M hWw lenL L lu lv
  rintro at_ w17 ⟨U, V, L, F, Sn, ord, m, hW17, M, hmid⟩
  have lenN := M.on.leni
  obtain ⟨aR0, aR1, aR2⟩ := hmid.aR
  have gB := M.ob.int_at (i := at_) aR0 (by omega)
  refine ⟨nn _, nn _, _, _, _, M.c3, nn _, aR0, by omega, _, gB, fun hne => ?_, fun heq => ?_⟩
  · -- one job more is seen
    have hSat : Sn.getD at_.toNat false = false := by
      cases h : Sn.getD at_.toNat false
      · rfl
      · exact absurd ⟨aR0, h⟩ aR2
    refine ⟨nn _, aR0, by omega, ?_⟩
    refine store_bool M.on aR0 (by omega) (by simp) fun w22 oN gN => ?_
    have M22 := M.setN oN gN
    have hW22 := gN.ext hW17 M.on
    have hcnt : cntF w22 (Pb s) n < cntF w17 (Pb s) n := cntF_lt M.on aR0 aR1 hSat oN
    have hT : ∀ k, seenP (Sn.set at_.toNat true) k ↔ seenP Sn k ∨ k = at_ := fun k => by
      unfold seenP
      constructor
      · rintro ⟨h0, h1⟩
        rw [s0_set aR0 (by omega) h0] at h1
        by_cases hk : k = at_
        · exact .inr hk
        · rw [if_neg hk] at h1; exact .inl ⟨h0, h1⟩
      · rintro (⟨h0, h1⟩ | rfl)
        · refine ⟨h0, ?_⟩
          rw [s0_set aR0 (by omega) h0]
          by_cases hk : k = at_
          · rw [if_pos hk]
          · rw [if_neg hk]; exact h1
        · exact ⟨aR0, by rw [s0_set aR0 (by omega) aR0, if_pos rfl]⟩
    have lenT : (Sn.set at_.toNat true).length = n + 1 := by simp [lenN]
    revert M22 hT lenT hcnt
    generalize Sn.set at_.toNat true = T
    intro M22 hcnt hT lenT
    obtain ⟨bu, bv, bz⟩ := hmid.bounds hi hin hcM
    have pers := hmid.pers ⟨aR0, aR1⟩ hne hi
    have hatB : g0 Bl6 at_ = Bl6.getD at_.toNat 0 := rfl
    rw [hatB] at pers
    have gB22 := M22.ob.int_at (i := at_) aR0 (by omega)
    generalize hwho : Bl6.getD at_.toNat 0 = who at gB22 pers hne
    refine ⟨nn _, nn _, _, _, _, M22.c3, nn _, aR0, by omega, _, gB22, ?_⟩
    -- the first inner loop
    refine ⟨fun step next k w' => ∃ L' F', Ext W w' ∧ Mem7 W.heap.size w' I l f s pc n cc U V Bl6 L' F' T ∧ cntF w' (Pb s) n = cntF w22 (Pb s) n ∧ 1 ≤ k ∧ k ≤ n + 1 ∧
        (∀ j : Int, 1 ≤ j → j < k → ¬ seenP T j → (cst C who j - g0 U who - g0 V j < g0 L j → g0 L' j = cst C who j - g0 U who - g0 V j ∧ g0 F' j = at_) ∧ (g0 L j ≤ cst C who j - g0 U who - g0 V j → g0 L' j = g0 L j ∧ g0 F' j = g0 F j)) ∧
        (∀ j : Int, 0 ≤ j → j ≤ n → (k ≤ j ∨ seenP T j) → g0 L' j = g0 L j ∧ g0 F' j = g0 F j) ∧
        ((next = 0 ∧ step = 1125899906842624 ∧ ∀ j : Int, 1 ≤ j → j < k → seenP T j) ∨ (1 ≤ next ∧ next < k ∧ ¬ seenP T next ∧ g0 L' next = step ∧ ∀ j : Int, 1 ≤ j → j < k → ¬ seenP T j → step ≤ g0 L' j)),
      fun _ _ k _ => ((n : Int) + 1 - k).toNat, ⟨L, F, hW22, M22, rfl, by omega, by omega, fun j _ _ => by omega, fun j _ _ _ => ⟨rfl, rfl⟩, .inl ⟨rfl, rfl, fun j _ _ => by omega⟩⟩, ?_⟩
    rintro step next k w31 ⟨L1, F1, hW31, M31, hc31, hk0, hk1, hA, hB, hN⟩
    have lenL1 := M31.ol.leni
    have lenF1 := M31.of.leni
    refine ⟨fun hle => ?_, fun hgt => ?_⟩
    · have gT := M31.on.bool_at (i := k) (by omega) (by omega)
      refine ⟨nn _, by omega, by omega, _, gT, fun hs => ?_, fun hs => ?_⟩
      · have hTk : seenP T k := ⟨by omega, hs⟩
        have hlt : ∀ j : Int, j < k + 1 → ¬ seenP T j → j < k := fun j h1 hj => by
          by_cases hjk : j = k
          · exact absurd (hjk ▸ hTk) hj
          · omega
        refine ⟨i64 (by omega), ⟨L1, F1, hW31, M31, hc31, by omega, by omega, fun j h0 h1 hj => hA j h0 (hlt j h1 hj) hj, fun j h0 h1 hj => hB j h0 h1 (hj.elim (fun h => .inl (by omega)) .inr), ?_⟩, by simp only []; omega⟩
        rcases hN with ⟨h1, h2, h3⟩ | ⟨h1, h2, h3, h4, h5⟩
        · refine .inl ⟨h1, h2, fun j a b => ?_⟩
          by_cases hjk : j = k
          · exact hjk ▸ hTk
          · exact h3 j a (by omega)
        · refine .inr ⟨h1, by omega, h3, h4, fun j a b hj => ?_⟩
          by_cases hjk : j = k
          · exact absurd (hjk ▸ hTk) hj
          · exact h5 j a (by omega) hj
      · have hTk : ¬ seenP T k := fun h => by rw [h.2] at hs; cases hs
        obtain ⟨rl, p, d, gr, hrow⟩ := (hR.ext hW31).row (who - 1).toNat (by omega)
        have gC := Ints.idx hrow (i := k - 1) (by omega) (by omega)
        have gU := M31.ou.int_at (i := who) (by omega) (by have := M31.lu.1; omega)
        have gV := M31.ov.int_at (i := k) (by omega) (by have := M31.lu.2.1; omega)
        have gL := M31.ol.int_at (i := k) (by omega) (by omega)
        have b1 := bu who pers.1 pers.2.1
        have b2 := bv k (by omega) (by omega)
        have b3 := hcM who k pers.1 (by omega) (by omega) (by omega)
        have eC : (C.getD (who - 1).toNat []).getD (k - 1).toNat 0 = cst C who k := rfl
        have eU : U.getD who.toNat 0 = g0 U who := rfl
        have eV : V.getD k.toNat 0 = g0 V k := rfl
        have eL : L1.getD k.toNat 0 = g0 L1 k := rfl
        rw [eC] at gC; rw [eU] at gU; rw [eV] at gV; rw [eL] at gL
        have hLk := hB k (by omega) (by omega) (.inl (by omega))
        refine ⟨nn _, nn _, _, _, _, M31.c0, i64 (by omega), hpc, by omega, by omega, p, n, d, (by rw [cell_pIdx]; simpa using gr), i64 (by omega), (fun hq => cell_p gC (pIdx_none.2 hq)), by omega, by omega, _, gC, nn _, nn _, _, _, _, M31.c1, nn _, by omega, by omega, _, gU, i64 (by omega),
          nn _, nn _, _, _, _, M31.c2, nn _, by omega, by omega, _, gV, i64 (by omega), nn _, by omega, by omega, _, gL, fun hov => ?_, fun hov => ?_⟩
        · -- a cheaper way
          refine ⟨nn _, by omega, by omega, ?_⟩
          refine store_int M31.ol (by omega) (by omega) (by simp) fun w49 oL gLr => ?_
          have M49 := M31.setL oL gLr
          have hW49 := gLr.ext hW31 M31.ol
          refine ⟨nn _, by omega, by omega, ?_⟩
          refine store_int M49.of (by omega) (by omega) (by simp) fun w50 oF gFr => ?_
          have M50 := M49.setF oF gFr
          have hW50 := gFr.ext hW49 M49.of
          have hc50 : cntF w50 (Pb s) n = cntF w22 (Pb s) n := by
            rw [← hc31]
            unfold cntF
            congr 1
            refine List.filter_congr fun x hx => ?_
            rw [List.mem_range] at hx
            have a1 := M31.on.bool_at (i := (x : Int)) (by omega) (by omega)
            have a2 := M50.on.bool_at (i := (x : Int)) (by omega) (by omega)
            rw [cell_pIdx] at a1 a2
            simp at a1 a2
            rw [a1, a2]
          have eqL : ∀ j : Int, 0 ≤ j → g0 (L1.set k.toNat (cst C who k - g0 U who - g0 V k)) j = if j = k then cst C who k - g0 U who - g0 V k else g0 L1 j := fun j hj => g0_set (by omega) (by omega) hj
          have eqF : ∀ j : Int, 0 ≤ j → g0 (F1.set k.toNat at_) j = if j = k then at_ else g0 F1 j := fun j hj => g0_set (by omega) (by omega) hj
          have gL50 := M50.ol.int_at (i := k) (by omega) (by simp; omega)
          have eL50 : (L1.set k.toNat (cst C who k - g0 U who - g0 V k)).getD k.toNat 0 = cst C who k - g0 U who - g0 V k := by
            have := eqL k (by omega); rwa [if_pos rfl] at this
          rw [eL50] at gL50
          have hA' : ∀ j : Int, 1 ≤ j → j < k + 1 → ¬ seenP T j → (cst C who j - g0 U who - g0 V j < g0 L j → g0 (L1.set k.toNat (cst C who k - g0 U who - g0 V k)) j = cst C who j - g0 U who - g0 V j ∧ g0 (F1.set k.toNat at_) j = at_) ∧ (g0 L j ≤ cst C who j - g0 U who - g0 V j → g0 (L1.set k.toNat (cst C who k - g0 U who - g0 V k)) j = g0 L j ∧ g0 (F1.set k.toNat at_) j = g0 F j) := by
            intro j h0 h1 hj
            rw [eqL j (by omega), eqF j (by omega)]
            by_cases hjk : j = k
            · subst hjk
              rw [if_pos rfl, if_pos rfl]
              exact ⟨fun _ => ⟨rfl, rfl⟩, fun h => by omega⟩
            · rw [if_neg hjk, if_neg hjk]; exact hA j h0 (by omega) hj
          have hB' : ∀ j : Int, 0 ≤ j → j ≤ n → (k + 1 ≤ j ∨ seenP T j) → g0 (L1.set k.toNat (cst C who k - g0 U who - g0 V k)) j = g0 L j ∧ g0 (F1.set k.toNat at_) j = g0 F j := by
            intro j h0 h1 hj
            have hjk : j ≠ k := fun h => by
              rcases hj with h' | h'
              · omega
              · exact hTk (h ▸ h')
            rw [eqL j h0, eqF j h0, if_neg hjk, if_neg hjk]
            exact hB j h0 h1 (hj.elim (fun h => .inl (by omega)) .inr)
          refine ⟨nn _, by omega, by omega, _, gL50, fun hst => ⟨nn _, by omega, by omega, _, gL50, i64 (by omega), ⟨_, _, hW50, M50, hc50, by omega, by omega, hA', hB', .inr ⟨by omega, by omega, hTk, eL50, fun j a b hj => ?_⟩⟩, by simp only []; omega⟩, fun hst => ⟨i64 (by omega), ⟨_, _, hW50, M50, hc50, by omega, by omega, hA', hB', ?_⟩, by simp only []; omega⟩⟩
          · rw [eqL j (by omega)]
            by_cases hjk : j = k
            · rw [if_pos hjk]; exact Int.le_refl _
            · rw [if_neg hjk]
              rcases hN with ⟨_, _, h3⟩ | ⟨_, _, _, _, h5⟩
              · exact absurd (h3 j a (by omega)) hj
              · have := h5 j a (by omega) hj; omega
          · rcases hN with ⟨h1, h2, h3⟩ | ⟨h1, h2, h3, h4, h5⟩
            · omega
            · refine .inr ⟨h1, by omega, h3, by rw [eqL next (by omega), if_neg (by omega)]; exact h4, fun j a b hj => ?_⟩
              rw [eqL j (by omega)]
              by_cases hjk : j = k
              · rw [if_pos hjk]; omega
              · rw [if_neg hjk]; exact h5 j a (by omega) hj
        · have hA' : ∀ j : Int, 1 ≤ j → j < k + 1 → ¬ seenP T j → (cst C who j - g0 U who - g0 V j < g0 L j → g0 L1 j = cst C who j - g0 U who - g0 V j ∧ g0 F1 j = at_) ∧ (g0 L j ≤ cst C who j - g0 U who - g0 V j → g0 L1 j = g0 L j ∧ g0 F1 j = g0 F j) := by
            intro j h0 h1 hj
            by_cases hjk : j = k
            · subst hjk
              exact ⟨fun h => by omega, fun _ => hLk⟩
            · exact hA j h0 (by omega) hj
          have hB' : ∀ j : Int, 0 ≤ j → j ≤ n → (k + 1 ≤ j ∨ seenP T j) → g0 L1 j = g0 L j ∧ g0 F1 j = g0 F j := fun j h0 h1 hj => hB j h0 h1 (hj.elim (fun h => .inl (by omega)) .inr)
          refine ⟨nn _, by omega, by omega, _, gL, fun hst => ⟨nn _, by omega, by omega, _, gL, i64 (by omega), ⟨_, _, hW31, M31, hc31, by omega, by omega, hA', hB', .inr ⟨by omega, by omega, hTk, rfl, fun j a b hj => ?_⟩⟩, by simp only []; omega⟩, fun hst => ⟨i64 (by omega), ⟨_, _, hW31, M31, hc31, by omega, by omega, hA', hB', ?_⟩, by simp only []; omega⟩⟩
          · by_cases hjk : j = k
            · rw [hjk]; exact Int.le_refl _
            · rcases hN with ⟨_, _, h3⟩ | ⟨_, _, _, _, h5⟩
              · exact absurd (h3 j a (by omega)) hj
              · have := h5 j a (by omega) hj; omega
          · rcases hN with ⟨h1, h2, h3⟩ | ⟨h1, h2, h3, h4, h5⟩
            · exfalso
              -- nothing is as far
              by_cases ha : at_ = 0
              · have := hmid.low0 ha k (by omega) (by omega); omega
              · have hSk : ¬ seenP Sn k := fun h => hTk ((hT k).2 (.inl h))
                have hz := (hmid.lowS ha k (by omega) (by omega) hSk)
                have hb0 := hmid.pers (hmid.sR _ hz.1) (hmid.sb _ hz.1) hi
                have c1 := hcM _ k hb0.1 (by omega) (by omega) (by omega)
                have c2 := bu _ hb0.1 hb0.2.1
                omega
            · refine .inr ⟨h1, by omega, h3, h4, fun j a b hj => ?_⟩
              by_cases hjk : j = k
              · rw [hjk]; exact hst
              · exact h5 j a (by omega) hj
    · -- the second inner loop
      obtain rfl : k = n + 1 := by omega
      obtain ⟨k0, k01, k02, k03⟩ := hmid.by_.free (by omega) (by omega)
      have hTk0 : ¬ seenP T k0 := fun h => by
        rcases (hT k0).1 h with h | h
        · exact hmid.sb k0 h k03
        · rw [h] at k03; exact hne (hwho ▸ k03)
      obtain ⟨nx1, nx2, nx3, nx4, nx5⟩ : 1 ≤ next ∧ next ≤ n ∧ ¬ seenP T next ∧ g0 L1 next = step ∧ ∀ j : Int, 1 ≤ j → j ≤ n → ¬ seenP T j → step ≤ g0 L1 j := by
        rcases hN with ⟨_, _, h3⟩ | ⟨h1, h2, h3, h4, h5⟩
        · exact absurd (h3 k0 k01 (by omega)) hTk0
        · exact ⟨h1, by omega, h3, h4, fun j a b hj => h5 j a (by omega) hj⟩
      have low1 : Low1 n (cst C) (g0 U) (g0 V) (g0 Bl6) (g0 L) (g0 F) (seenP T) at_ (g0 L1) (g0 F1) := by
        refine ⟨fun j a b hj hov => ?_, fun j a b hj hov => ?_, fun j hj => ?_⟩
        · rw [hatB, hwho] at hov ⊢; exact (hA j a (by omega) hj).1 hov
        · rw [hatB, hwho] at hov; exact (hA j a (by omega) hj).2 hov
        · exact (hB j hj.1 (by have := seenP_lt hj; omega) (.inr hj)).2
      have stepB : -5000000000 ≤ step ∧ step ≤ 1125899906842624 := by
        have hv := bv next nx1 nx2
        have hu := bu who pers.1 pers.2.1
        have hcc := hcM who next pers.1 (by omega) nx1 nx2
        have hA := hA next nx1 (by omega) nx3
        by_cases hov : cst C who next - g0 U who - g0 V next < g0 L next
        · have := (hA.1 hov).1; omega
        · have h2 := (hA.2 (by omega)).1
          by_cases ha : at_ = 0
          · have := hmid.low0 ha next nx1 nx2; omega
          · have hSk : ¬ seenP Sn next := fun h => nx3 ((hT next).2 (.inl h))
            have hz := (hmid.lowS ha next nx1 nx2 hSk)
            have hb0 := hmid.pers (hmid.sR _ hz.1) (hmid.sb _ hz.1) hi
            have c1 := hcM _ next hb0.1 (by omega) nx1 nx2
            have c2 := bu _ hb0.1 hb0.2.1
            omega
      have stepU : step ≤ 5000000000 := by
        have hv := bv next nx1 nx2
        have hu := bu who pers.1 pers.2.1
        have hcc := hcM who next pers.1 (by omega) nx1 nx2
        have hA := hA next nx1 (by omega) nx3
        by_cases hov : cst C who next - g0 U who - g0 V next < g0 L next
        · have := (hA.1 hov).1; omega
        · have h2 := (hA.2 (by omega)).1; omega
      have lowB : ∀ j : Int, 1 ≤ j → j ≤ n → ¬ seenP T j → -5000000000 ≤ g0 L1 j ∧ g0 L1 j ≤ 5000000000 := by
        intro j a b hj
        have h1 := nx5 j a b hj
        have hv := bv j a b
        have hu := bu who pers.1 pers.2.1
        have hcc := hcM who j pers.1 (by omega) a b
        have hA := hA j a (by omega) hj
        by_cases hov : cst C who j - g0 U who - g0 V j < g0 L j
        · have := (hA.1 hov).1; omega
        · have h2 := (hA.2 (by omega)).1; omega
      have hTs : ∀ j, seenP T j → (0 ≤ j ∧ j ≤ n) ∧ g0 Bl6 j ≠ 0 := fun j hj => by
        refine ⟨⟨hj.1, by have := seenP_lt hj; omega⟩, ?_⟩
        rcases (hT j).1 hj with h | h
        · exact hmid.sb j h
        · rw [h, hatB, hwho]; exact hne
      have persT : ∀ j, seenP T j → 1 ≤ g0 Bl6 j ∧ g0 Bl6 j ≤ i := fun j hj => by
        have := hmid.pers (hTs j hj).1 (hTs j hj).2 hi
        exact ⟨this.1, this.2.1⟩
      clear hA hB hN
      refine ⟨fun k w' => ∃ U' V' L', Ext W w' ∧ Mem7 W.heap.size w' I l f s pc n cc U' V' Bl6 L' F1 T ∧ cntF w' (Pb s) n = cntF w22 (Pb s) n ∧ 0 ≤ k ∧ k ≤ n + 1 ∧
          (∀ j : Int, seenP T j → j < k → g0 U' (g0 Bl6 j) = g0 U (g0 Bl6 j) + step ∧ g0 V' j = g0 V j - step) ∧
          (∀ r : Int, 0 ≤ r → (∀ j, seenP T j → j < k → g0 Bl6 j ≠ r) → g0 U' r = g0 U r) ∧
          (∀ j : Int, 0 ≤ j → (¬ seenP T j ∨ k ≤ j) → g0 V' j = g0 V j) ∧
          (∀ j : Int, 0 ≤ j → ¬ seenP T j → j < k → g0 L' j = g0 L1 j - step) ∧
          (∀ j : Int, 0 ≤ j → (seenP T j ∨ k ≤ j) → g0 L' j = g0 L1 j),
        fun k _ => ((n : Int) + 1 - k).toNat, ⟨U, V, L1, hW31, M31, hc31, by omega, by omega, fun j h1 h2 => by have := h1.1; omega, fun _ _ _ => rfl, fun _ _ _ => rfl, fun j h1 _ h2 => by omega, fun _ _ _ => rfl⟩, ?_⟩
      clear M31 hW31 hc31 lenL1
      rintro k w34 ⟨U2, V2, L2, hW34, M34, hc34, hk0, hk1, hU, hUn, hVn, hL, hLn⟩
      obtain ⟨lU2, lV2, _⟩ := M34.lu
      have lL2 := M34.ol.leni
      refine ⟨fun hle => ?_, fun hgt => ?_⟩
      · have gT := M34.on.bool_at (i := k) (by omega) (by omega)
        refine ⟨nn _, by omega, by omega, _, gT, fun hs => ?_, fun hs => ?_⟩
        · have hTk : seenP T k := ⟨hk0, hs⟩
          obtain ⟨p1, p2⟩ := persT k hTk
          have gB34 := M34.ob.int_at (i := k) (by omega) (by omega)
          have eB : Bl6.getD k.toNat 0 = g0 Bl6 k := rfl
          rw [eB] at gB34
          have gU := M34.ou.int_at (i := g0 Bl6 k) (by omega) (by omega)
          have eU : U2.getD (g0 Bl6 k).toNat 0 = g0 U2 (g0 Bl6 k) := rfl
          have hu0 : g0 U2 (g0 Bl6 k) = g0 U (g0 Bl6 k) := hUn _ (by omega) fun j hj hjk he => by
            have := hmid.injS (hTs j hj).1 (hTs k hTk).1 (hTs j hj).2 he hi
            omega
          rw [eU, hu0] at gU
          have b1 := bu _ p1 p2
          refine ⟨nn _, nn _, _, _, _, M34.c1, nn _, nn _, _, _, _, M34.c3, nn _, by omega, by omega, _, gB34, nn _, by omega, by omega, _, gU, i64 (by omega), nn _, by omega, by omega, ?_⟩
          refine store_int M34.ou (by omega) (by omega) (by simp) fun w44 oU gUr => ?_
          have M44 := M34.setU oU gUr
          have hW44 := gUr.ext hW34 M34.ou
          have gV := M44.ov.int_at (i := k) (by omega) (by omega)
          have eV : V2.getD k.toNat 0 = g0 V2 k := rfl
          rw [eV, hVn k hk0 (.inr (Int.le_refl _))] at gV
          have b2 : -12000000000 ≤ g0 V k ∧ g0 V k ≤ 12000000000 := by
            by_cases hkz : k = 0
            · rw [hkz]; omega
            · have := bv k (by omega) (by omega); omega
          refine ⟨nn _, nn _, _, _, _, M44.c2, nn _, by omega, by omega, _, gV, i64 (by omega), nn _, by omega, by omega, ?_⟩
          refine store_int M44.ov (by omega) (by omega) (by simp) fun w49 oV gVr => ?_
          have M49 := M44.setV oV gVr
          have hW49 := gVr.ext hW44 M44.ov
          have hc49 : cntF w49 (Pb s) n = cntF w22 (Pb s) n := by
            rw [← hc34]
            unfold cntF
            congr 1
            refine List.filter_congr fun x hx => ?_
            rw [List.mem_range] at hx
            have a1 := M34.on.bool_at (i := (x : Int)) (by omega) (by omega)
            have a2 := M49.on.bool_at (i := (x : Int)) (by omega) (by omega)
            rw [cell_pIdx] at a1 a2
            simp at a1 a2
            rw [a1, a2]
          have eqU : ∀ r : Int, 0 ≤ r → g0 (U2.set (g0 Bl6 k).toNat (g0 U (g0 Bl6 k) + step)) r = if r = g0 Bl6 k then g0 U (g0 Bl6 k) + step else g0 U2 r := fun r hr => g0_set (by omega) (by omega) hr
          have eqV : ∀ j : Int, 0 ≤ j → g0 (V2.set k.toNat (g0 V k - step)) j = if j = k then g0 V k - step else g0 V2 j := fun j hj => g0_set (by omega) (by omega) hj
          have ltk : ∀ j : Int, j < k + 1 → ¬ seenP T j → j < k := fun j h1 hj => by
            by_cases hjk : j = k
            · exact absurd (hjk ▸ hTk) hj
            · omega
          refine ⟨i64 (by omega), ⟨_, _, L2, hW49, M49, hc49, by omega, by omega, fun j hj hjk => ?_, fun r hr hno => ?_, fun j hj hor => ?_, fun j hj hn2 hjk => hL j hj hn2 (ltk j hjk hn2), fun j hj hor => hLn j hj (hor.elim .inl (fun h => .inr (by omega)))⟩, by simp only []; omega⟩
          · have pj := persT j hj
            rw [eqU _ (by omega), eqV j hj.1]
            by_cases hjk2 : j = k
            · subst hjk2; rw [if_pos rfl, if_pos rfl]; exact ⟨rfl, rfl⟩
            · have hne2 : g0 Bl6 j ≠ g0 Bl6 k := fun he => hjk2 (hmid.injS (hTs j hj).1 (hTs k hTk).1 (hTs j hj).2 he hi)
              rw [if_neg hne2, if_neg hjk2]
              exact hU j hj (by omega)
          · rw [eqU r hr, if_neg (fun he => hno k hTk (by omega) he.symm)]
            exact hUn r hr fun j hj hjk => hno j hj (by omega)
          · have hjk2 : j ≠ k := fun he => by
              rcases hor with h | h
              · exact h (he ▸ hTk)
              · omega
            rw [eqV j hj, if_neg hjk2]
            exact hVn j hj (hor.elim .inl (fun h => .inr (by omega)))
        · have hTk : ¬ seenP T k := fun h => by rw [h.2] at hs; cases hs
          have hk1' : 1 ≤ k := by
            by_cases hkz : k = 0
            · exfalso
              refine hTk ?_
              rw [hkz]
              by_cases ha : at_ = 0
              · exact (hT 0).2 (.inr ha.symm)
              · exact (hT 0).2 (.inl (hmid.nxt ha))
            · omega
          have gL := M34.ol.int_at (i := k) (by omega) (by omega)
          have eL : L2.getD k.toNat 0 = g0 L2 k := rfl
          rw [eL, hLn k hk0 (.inr (Int.le_refl _))] at gL
          have b3 := lowB k hk1' (by omega) hTk
          refine ⟨nn _, by omega, by omega, _, gL, i64 (by omega), nn _, by omega, by omega, ?_⟩
          refine store_int M34.ol (by omega) (by omega) (by simp) fun w37 oL gLr => ?_
          have M37 := M34.setL oL gLr
          have hW37 := gLr.ext hW34 M34.ol
          have hc37 : cntF w37 (Pb s) n = cntF w22 (Pb s) n := by
            rw [← hc34]
            unfold cntF
            congr 1
            refine List.filter_congr fun x hx => ?_
            rw [List.mem_range] at hx
            have a1 := M34.on.bool_at (i := (x : Int)) (by omega) (by omega)
            have a2 := M37.on.bool_at (i := (x : Int)) (by omega) (by omega)
            rw [cell_pIdx] at a1 a2
            simp at a1 a2
            rw [a1, a2]
          have eqL : ∀ j : Int, 0 ≤ j → g0 (L2.set k.toNat (g0 L1 k - step)) j = if j = k then g0 L1 k - step else g0 L2 j := fun j hj => g0_set (by omega) (by omega) hj
          have nk : ∀ j, seenP T j → j ≠ k := fun j hj he => hTk (he ▸ hj)
          refine ⟨i64 (by omega), ⟨U2, V2, _, hW37, M37, hc37, by omega, by omega, fun j hj hjk => hU j hj (by have := nk j hj; omega), fun r hr hno => hUn r hr fun j hj hjk => hno j hj (by omega), fun j hj hor => hVn j hj ?_, fun j hj hn2 hjk => ?_, fun j hj hor => ?_⟩, by simp only []; omega⟩
          · rcases hor with h | h
            · exact .inl h
            · exact .inr (by omega)
          · rw [eqL j hj]
            by_cases hjk2 : j = k
            · rw [if_pos hjk2, hjk2]
            · rw [if_neg hjk2]; exact hL j hj hn2 (by omega)
          · have hjk2 : j ≠ k := by
              rcases hor with h | h
              · exact nk j h
              · omega
            rw [eqL j hj, if_neg hjk2]
            exact hLn j hj (hor.elim .inl (fun h => .inr (by omega)))
      · obtain rfl : k = n + 1 := by omega
        have st2 : Step2 n (g0 U) (g0 V) (g0 Bl6) (g0 L1) (seenP T) step (g0 U2) (g0 V2) (g0 L2) := by
          refine ⟨fun j hj => (hU j hj (by have := (hTs j hj).1; omega)).1, fun r r1 r2 hno => hUn r (by omega) fun j hj _ => hno j hj, fun j hj => (hU j hj (by have := (hTs j hj).1; omega)).2, fun j a b hj => hVn j (by omega) (.inl hj), fun j a b hj => hL j a hj (by omega)⟩
        have hmid' := hmid.step hi hin hcM (by rw [hatB, hwho]; exact hne) hT low1 ⟨nx1, nx2, nx3⟩ nx4 nx5 st2
        exact ⟨⟨U2, V2, L2, F1, T, _, _, hW34, M34, hmid'⟩, by simp only []; omega⟩
  · -- the pairs are turned
    have hatB : g0 Bl6 at_ = 0 := heq
    obtain ⟨haug, hat0⟩ := hmid.aug hi hatB
    refine ⟨fun a w' => ∃ b oa, Ext W w' ∧ Mem7 W.heap.size w' I l f s pc n cc U V b L F Sn ∧ Aug n i (cst C) (g0 U) (g0 V) (g0 Bl6) (g0 F) (seenP Sn) ord (g0 b) a oa ∧ ((a = at_ ∧ oa = m) ∨ (a ≠ at_ ∧ seenP Sn a ∧ oa = ord a)), fun a _ => if a = at_ then m.toNat + 1 else (ord a).toNat,
      ⟨Bl6, m, hW17, M, haug, .inl ⟨rfl, rfl⟩⟩, ?_⟩
    rintro a w24 ⟨b, oa, hW24, M24, hA, hoa⟩
    obtain ⟨a0, a1⟩ := hA.aR
    have lenF := M24.of.leni
    have lenb := M24.lu.2.2
    refine ⟨fun hne => ?_, fun hz w25 h25 => ⟨rfl, hW24.trans h25, U, V, b, (M24.toMemS.ext h25), hA.pot hmid hi hin hcM hat0 hz⟩⟩
    have hin' := hA.inS hne
    have fR := hmid.sR _ hin'.1
    have gF := M24.of.int_at (i := a) a0 (by omega)
    have eF : F.getD a.toNat 0 = g0 F a := rfl
    rw [eF] at gF
    have gB2 := M24.ob.int_at (i := g0 F a) fR.1 (by omega)
    refine ⟨nn _, nn _, _, _, _, M24.c3, nn _, nn _, _, _, _, M24.c3, nn _, a0, by omega, _, gF, nn _, fR.1, by omega, _, gB2, nn _, a0, by omega, ?_⟩
    refine store_int M24.ob a0 (by omega) (by simp) fun w33 oB gBr => ?_
    have M33 := M24.setB oB gBr
    have hW33 := gBr.ext hW24 M24.ob
    have gF33 := M33.of.int_at (i := a) a0 (by omega)
    rw [eF] at gF33
    have hst := hA.step (b' := g0 (b.set a.toNat (b.getD (g0 F a).toNat 0))) hi hne hmid.sR hmid.sb hmid.path (by rw [g0_set a0 (by omega) a0, if_pos rfl]) (fun k k1 k2 k3 => by rw [g0_set a0 (by omega) k1, if_neg k3])
    have hfa : g0 F a ≠ at_ := fun he => hmid.aR.2.2 (he ▸ hin'.1)
    have ho := hmid.ordm _ hin'.1
    refine ⟨nn _, a0, by omega, _, gF33, ⟨_, _, hW33, M33, hst, .inr ⟨hfa, hin'.1, rfl⟩⟩, ?_⟩
    simp only []
    rw [if_neg hfa]
    rcases hoa with ⟨rfl, rfl⟩ | ⟨h1, h2, rfl⟩
    · rw [if_pos rfl]; omega
    · rw [if_neg h1]
      have := hin'.2.1
      omega
end Go.Proofs.Ytlacdincnpbpdaa
