/- Atoms of asks. -/
import Derived.Test.YteelndoflikliaaDoorAtX
set_option linter.unusedVariables false
set_option linter.unusedSimpArgs false
namespace Go.Proofs.YteelndoflikliaaDoor
open Go.Sx Go.RowKit

/-- Where a text stands first. -/
def ix : List ByteArray → ByteArray → Nat
  | [], _ => 0
  | x :: l, v => if x = v then 0 else ix l v + 1
theorem ix_of : ∀ {L : List ByteArray} {v : ByteArray} {k : Nat}, L[k]? = some v → (∀ j, j < k → L[j]? ≠ some v) → ix L v = k
  | [], v, k, h, _ => by simp at h
  | x :: l, v, 0, h, _ => by
    have : x = v := by simpa using h
    rw [ix, if_pos this]
  | x :: l, v, k + 1, h, hn => by
    have hx : x ≠ v := fun e => hn 0 (by omega) (by rw [e]; rfl)
    rw [ix, if_neg hx, ix_of (L := l) (k := k) (by simpa using h) fun j hj => by have := hn (j + 1) (by omega); simpa using this]
theorem ix_lt : ∀ {L : List ByteArray} {v : ByteArray}, v ∈ L → ix L v < L.length ∧ L[ix L v]? = some v
  | [], v, h => by cases h
  | x :: l, v, h => by
    rw [ix]
    split
    · rename_i e; subst e; simp
    · rename_i e
      have h' : v ∈ l := by
        rcases List.mem_cons.1 h with rfl | h
        · exact absurd rfl e
        · exact h
      have := ix_lt h'
      exact ⟨by rw [List.length_cons]; omega, by simpa using this.2⟩
theorem Index_k (L : List ByteArray) (p : Option Addr) (c : Nat) (v : ByteArray) (hL : L.length ≤ 1099511627776) (w : World) (h : Cells w p (L.map Value.string)) :
    FnP Tryd.prog F_slices_Index_string_string #[.slice p L.length c, .string v] w fun r w' => Ext w w' ∧ ∃ i : Int, r = .int .i64 i ∧ ((v ∈ L ∧ i = ix L v) ∨ (v ∉ L ∧ i = -1)) := by
  refine ok_slices_Index_string_string p L.length c v w _ ⟨fun k w' => w' = w ∧ 0 ≤ k ∧ k ≤ L.length ∧ ∀ j : Nat, (j : Int) < k → L[j]? ≠ some v, fun k _ => (L.length - k).toNat, ⟨rfl, by omega, by omega, fun j hj => by omega⟩, ?_⟩
  rintro k w2 ⟨rfl, hk0, hk1, hall⟩
  refine ⟨fun hlt => ?_, fun hge w3 h3 => ⟨h3, -1, rfl, .inr ⟨fun hm => ?_, rfl⟩⟩⟩
  · obtain ⟨s, hs⟩ : ∃ s, L[k.toNat]? = some s := ⟨_, List.getElem?_eq_getElem (by omega)⟩
    have hc : Go.Sx.cell w2 (pIdx p k 1) 0 = some (.string s) := by
      rw [cell_pIdx]
      exact h _ _ (by simp [hs])
    refine ⟨fun hq => cell_p hc (pIdx_none.2 hq), hk0, hlt, s, hc, fun he w4 h4 => ⟨h4, k, rfl, .inl ?_⟩, fun hne => ⟨i64 (by omega), ⟨rfl, by omega, by omega, fun j hj => ?_⟩, by simp only []; omega⟩⟩
    · subst he
      refine ⟨List.mem_of_getElem? hs, ?_⟩
      rw [ix_of hs fun j hj => hall j (by omega)]; omega
    · by_cases hjk : (j : Int) < k
      · exact hall j hjk
      · have : j = k.toNat := by omega
        rw [this, hs]
        intro h; injection h with h; exact hne h.symm
  · obtain ⟨j, hj, hv⟩ := List.getElem_of_mem hm
    exact hall j (by omega) (by rw [List.getElem?_eq_getElem hj, hv])
theorem Contains_k (L : List ByteArray) (p : Option Addr) (c : Nat) (v : ByteArray) (hL : L.length ≤ 1099511627776) (w : World) (h : Cells w p (L.map Value.string)) :
    FnP Tryd.prog F_slices_Contains_string_string #[.slice p L.length c, .string v] w fun r w' => Ext w w' ∧ ∃ b : Bool, r = .bool b ∧ (b = true ↔ v ∈ L) := by
  refine ok_slices_Contains_string_string p L.length c v w _ fun w0 h0 => (Index_k L p c v hL w0 (h.ext h0)).mono fun r w1 ⟨e1, i, hv, hi⟩ => ⟨e1, i, hv, fun w3 h3 => ⟨h3, _, rfl, ?_⟩⟩
  rw [decide_eq_true_iff]
  rcases hi with ⟨a, b⟩ | ⟨a, b⟩
  · exact ⟨fun _ => a, fun _ => by omega⟩
  · exact ⟨fun h => by omega, fun h => absurd h a⟩

theorem grew_trans {w w' w'' : World} {p q r : Option Addr} (h : Grew w w' p q) (g : Grew w' w'' q r) (hp : ∀ a, p = some a → a.block < w.heap.size) : Grew w w'' p r := by
  refine ⟨⟨g.by_.os.trans h.by_.os, g.by_.tape.trans h.by_.tape, g.by_.output.trans h.by_.output, Nat.le_trans h.by_.size g.by_.size, fun k hk hne => ?_⟩, ?_⟩
  · refine (g.by_.block k (Nat.lt_of_lt_of_le hk h.by_.size) fun he => ?_).trans (h.by_.block k hk hne)
    rcases h.new with hn | hn
    · exact hne (he.trans hn)
    · cases q with
      | none => cases he
      | some a =>
        have := hn a rfl
        simp [blk] at he
        omega
  · rcases g.new with hn | hn
    · rcases h.new with hm | hm
      · exact .inl (hn.trans hm)
      · right
        intro a ha
        subst ha
        cases q with
        | none => simp [blk] at hn
        | some b =>
          have := hm b rfl
          simp [blk] at hn
          omega
    · right
      intro a ha
      have := hn a ha
      have := h.by_.size
      omega

mutual
/-- The atoms, each once, behind those that are there. -/
def ats : AT → List (List UInt8) → List (List UInt8)
  | .mk k key val n xs, A => if xs.length = 0 then (if txt (.mk k key val n xs) ∈ A then A else A ++ [txt (.mk k key val n xs)]) else atsL xs A
def atsL : List AT → List (List UInt8) → List (List UInt8)
  | [], A => A
  | x :: r, A => atsL r (ats x A)
end
theorem atsL_append : ∀ (a b : List AT) (A : List (List UInt8)), atsL (a ++ b) A = atsL b (atsL a A)
  | [], b, A => rfl
  | x :: a, b, A => by rw [List.cons_append, atsL, atsL, atsL_append a b]
theorem ats_len : ∀ (t : AT) (A : List (List UInt8)), (ats t A).length ≤ A.length + nod t := by
  intro t
  induction t using AT.ind with
  | h k key val n xs ih =>
    intro A
    have hL : ∀ (xs : List AT), (∀ x ∈ xs, ∀ A : List (List UInt8), (ats x A).length ≤ A.length + nod x) → ∀ A, (atsL xs A).length ≤ A.length + nodL xs := by
      intro xs
      induction xs with
      | nil => intro _ A; simp [atsL]
      | cons x r ihr =>
        intro hx A
        have h1 := hx x (List.mem_cons_self ..) A
        have h2 := ihr (fun y hy => hx y (List.mem_cons_of_mem _ hy)) (ats x A)
        simp only [atsL, nodL]; omega
    rw [ats, nod]
    split
    · split
      · omega
      · rw [List.length_append, List.length_singleton]; omega
    · have := hL xs ih A; omega
theorem nodL_take (xs : List AT) : ∀ (k : Nat), nodL (xs.take k) ≤ nodL xs := by
  induction xs with
  | nil => intro k; simp
  | cons x r ih =>
    intro k
    cases k with
    | zero => simp [nodL]
    | succ k => have := ih k; simp only [List.take_succ_cons, nodL]; omega
theorem nodL_take_get {xs : List AT} : ∀ {k : Nat} {x : AT}, xs[k]? = some x → nodL (xs.take k) + nod x ≤ nodL xs := by
  induction xs with
  | nil => intro k x h; simp at h
  | cons y r ih =>
    intro k x h
    cases k with
    | zero =>
      have : y = x := by simpa using h
      subst this; simp [nodL]
    | succ k =>
      have := ih (k := k) (x := x) (by simpa using h)
      simp only [List.take_succ_cons, nodL]; omega
theorem atsL_len : ∀ (xs : List AT) (A : List (List UInt8)), (atsL xs A).length ≤ A.length + nodL xs
  | [], A => by simp [atsL]
  | x :: r, A => by
    have h1 := ats_len x A
    have h2 := atsL_len r (ats x A)
    simp only [atsL, nodL]; omega

/-- Texts in a slice of the call's own. -/
abbrev OwnT (B : Nat) (w : World) (l : Option Addr) (ll lc : Nat) (A : List (List UInt8)) : Prop := Own B w T_string 1 l ll lc (A.map fun a => Value.string (ofL a))
theorem atoms_k (W0 : World) (g0 : GP W0) : ∀ (t : AT) (p : Option Addr) (c : Nat), IsT W0 t p c → errA t = 0 → ∀ (A : List (List UInt8)), A.length + nod t ≤ 1099511627776 → ∀ (l : Option Addr) (ll lc : Nat) (w : World), Ext W0 w → OwnT W0.heap.size w l ll lc A →
    FnP Tryd.prog F_ask_atoms #[av t p c, .slice l ll lc] w fun v w' => ∃ (l' : Option Addr) (ll' lc' : Nat), v = .slice l' ll' lc' ∧ OwnT W0.heap.size w' l' ll' lc' (ats t A) ∧ Grew w w' l l' := by
  intro t
  induction t using AT.ind with
  | h k key val n xs ih =>
    intro p c hT h A hN l ll lc w x o
    have hN' : A.length + (1 + nodL xs) ≤ 1099511627776 := hN
    have ol := o.leni
    have hll : ∀ y, l = some y → y.block < w.heap.size := fun y hy => (o.lt y hy).2
    have hself : Grew w w l l := grew_of_ext (Ext.refl _)
    refine ok_ask_atoms k key val n p xs.length c l ll lc w _ fun b0 hb0 => ⟨fun hz w1 h1 => ?_, fun hz => ?_⟩
    · have hx0 : xs = [] := List.eq_nil_of_length_eq_zero (by omega)
      subst hx0
      refine (text_k (.mk k key val n []) p c w1 (hT.ext (x.trans h1)) h (by omega) (g0.ext (x.trans h1))).mono fun v w2 ⟨e2, hv⟩ => ⟨e2, _, hv, fun w4 h4 => ?_⟩
      have hcell : Cells w4 l ((A.map ofL).map Value.string) := by
        have := (o.ext h4).cells
        rw [List.map_map]; exact this
      have hk := Contains_k (A.map ofL) l lc (ofL (txt (.mk k key val n []))) (by rw [List.length_map]; omega) w4 hcell
      rw [List.length_map, ol] at hk
      have hmem : ofL (txt (.mk k key val n [])) ∈ A.map ofL ↔ txt (.mk k key val n []) ∈ A := by
        rw [List.mem_map]
        constructor
        · rintro ⟨a, ha, he⟩; rwa [← ofL_inj he]
        · intro ha; exact ⟨_, ha, rfl⟩
      have hnil : ([] : List AT).length = 0 := rfl
      refine hk.mono fun v w5 ⟨e5, b, hv, hb⟩ => ⟨e5, b, hv, fun hf => ?_, fun ht => ?_⟩
      · have hno : txt (.mk k key val n []) ∉ A := fun hm => by
          have := hb.2 (hmem.2 hm)
          rw [hf] at this; cases this
        have hats : ats (.mk k key val n []) A = A ++ [txt (.mk k key val n [])] := by rw [ats, if_pos hnil, if_neg hno]
        rw [hats]
        refine push_B elem_sl_string (by omega) o x.size (fun b hb y hy => by simp at hb; subst hb; have := hll y hy; omega) rfl (by intro u hu; simp [Value.cells] at hu; subst hu; rfl) (by omega) (by omega) (by omega) fun p' c' w' o' g' np' nb' => ?_
        have o2 : OwnT W0.heap.size w' p' (ll + 1) c' (A ++ [txt (.mk k key val n [])]) := by
          show Own _ _ _ _ _ _ _ ((A ++ [_]).map _)
          rw [List.map_append]
          simpa [Value.cells] using o'
        refine ⟨fun a al ac kk wa => a = p' ∧ al = ll + 1 ∧ ac = c' ∧ wa = w' ∧ kk = 0, fun _ _ _ _ _ => 0, ⟨rfl, rfl, rfl, rfl, rfl⟩, ?_⟩
        rintro a al ac kk wa ⟨rfl, rfl, rfl, rfl, rfl⟩
        exact ⟨fun hlt => by simp at hlt, fun _ w21 h21 => ⟨_, _, _, rfl, o2.ext h21, grew_trans g' (grew_of_ext h21) hll⟩⟩
      · have hyes : txt (.mk k key val n []) ∈ A := hmem.1 (hb.1 ht)
        have hats : ats (.mk k key val n []) A = A := by rw [ats, if_pos hnil, if_pos hyes]
        rw [hats]
        refine ⟨fun a al ac kk wa => a = l ∧ al = ll ∧ ac = lc ∧ wa = w ∧ kk = 0, fun _ _ _ _ _ => 0, ⟨rfl, rfl, rfl, rfl, rfl⟩, ?_⟩
        rintro a al ac kk wa ⟨rfl, rfl, rfl, rfl, rfl⟩
        exact ⟨fun hlt => by simp at hlt, fun _ w21 h21 => ⟨_, _, _, rfl, o.ext h21, grew_of_ext h21⟩⟩
    · have hz' : ¬ xs.length = 0 := by omega
      have hats : ats (.mk k key val n xs) A = atsL xs A := by rw [ats, if_neg hz']
      rw [hats]
      have hsub : ∀ x ∈ xs, errA x = 0 := (errA_node h).2
      have hlen2 : xs.length ≤ 2 := by
        rcases ask_cases h with ⟨_, x, rfl, _⟩ | ⟨_, x, y, rfl, _⟩ | ⟨_, _, rfl⟩ <;> simp
      refine ⟨fun l2 ll2 lc2 k3 w4 => Ext W0 w4 ∧ 0 ≤ k3 ∧ k3 ≤ xs.length ∧ OwnT W0.heap.size w4 l2 ll2 lc2 (atsL (xs.take k3.toNat) A) ∧ Grew w w4 l l2 ∧ (∀ y, l2 = some y → y.block ≠ b0), fun _ _ _ k3 _ => (xs.length - k3).toNat,
        ⟨x, by omega, by omega, o, hself, fun y hy => by have := hll y hy; omega⟩, ?_⟩
      rintro l2 ll2 lc2 k3 w4 ⟨x4, hk0, hk1, o4, g4, nb4⟩
      refine ⟨fun hlt => ?_, fun hge w5 h5 => ?_⟩
      · obtain ⟨x', p', c', e1, hm, hT', np, np5, q0, q1, q2, q3, q4⟩ := hT.at (k := k3) hk0 hlt
        have e1 : xs[k3.toNat]? = some x' := e1
        have hm : x' ∈ xs := hm
        have hget := nodL_take_get e1
        have hal := atsL_len (xs.take k3.toNat) A
        refine ⟨np, hk0, hlt, np5, _, ext_cell x4 q0, _, ext_cell x4 q1, _, ext_cell x4 q2, _, ext_cell x4 q3, _, _, _, ext_cell x4 q4, fun b12 hb12 w13 x13 => ?_⟩
        have e13 := extB_ext x13
        have hl2 : ∀ y, l2 = some y → y.block < w4.heap.size := fun y hy => (o4.lt y hy).2
        refine (ih x' hm p' c' hT' (hsub x' hm) (atsL (xs.take k3.toNat) A) (by omega) l2 ll2 lc2 w13 (x4.trans e13) (o4.ext e13)).mono fun v w14 ⟨l', ll', lc', hv, o', g'⟩ => ⟨fun b hb => ?_, l', ll', lc', hv, i64 (by omega), ⟨g'.ext (x4.trans e13) (o4.ext e13), by omega, by omega, ?_, grew_trans (grew_trans g4 (grew_of_ext e13) hll) g' hll, fun y hy => ?_⟩, by simp only []; omega⟩
        · refine g'.by_.block b (x13.lt b hb) fun he => ?_
          cases hl2' : l2 with
          | none => rw [hl2'] at he; cases he
          | some y =>
            rw [hl2'] at he
            have hyb : b = y.block := by simpa [blk] using he
            simp only [List.mem_cons, List.mem_nil_iff, or_false] at hb
            rcases hb with rfl | rfl
            · exact nb4 y hl2' hyb.symm
            · have := hl2 y hl2'; omega
        · rw [show (k3 + 1).toNat = k3.toNat + 1 by omega, List.take_add_one, e1, atsL_append]
          exact o'
        · rcases g'.new with hn | hn
          · subst hy
            cases hl2' : l2 with
            | none => rw [hl2'] at hn; simp [blk] at hn
            | some z =>
              rw [hl2'] at hn
              have hyz : y.block = z.block := by simpa [blk] using hn
              rw [hyz]; exact nb4 z hl2'
          · have h1 := hn y hy
            have h2 := x13.lt b0 (by simp)
            omega
      · obtain rfl : k3 = (xs.length : Int) := by omega
        rw [Int.toNat_natCast, List.take_length] at o4
        exact ⟨_, _, _, rfl, o4.ext h5, grew_trans g4 (grew_of_ext h5) hll⟩
end Go.Proofs.YteelndoflikliaaDoor
