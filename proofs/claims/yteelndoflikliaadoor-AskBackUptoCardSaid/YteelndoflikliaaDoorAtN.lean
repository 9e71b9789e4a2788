/- Asks in their normal form. -/
import Derived.Test.YteelndoflikliaaDoorAtL
set_option linter.unusedVariables false
set_option linter.unusedSimpArgs false
namespace Go.Proofs.YteelndoflikliaaDoor
open Go.Sx Go.RowKit

theorem extB1 {b : Nat} {w0 w w' : World} (h : ExtB [b] [] w w') (he : Ext w0 w) (hb : w0.heap.size ≤ b) : Ext w0 w' := but_ext h he (by intro d hd; simp at hd; omega)
abbrev zeroA : AT := .mk 0 emS emS 0 []
mutual
def nrm : AT → Bool → AT
  | .mk k key val n xs, b => if k = 4 then (nrmL xs (!b)).getD 0 zeroA else if k = 5 ∨ k = 6 then .mk (if b = true then 11 - k else k) emS emS 0 (nrmL xs b) else if b = true then .mk 4 emS emS 0 [.mk k key val n xs] else .mk k key val n xs
def nrmL : List AT → Bool → List AT
  | [], _ => []
  | x :: r, b => nrm x b :: nrmL r b
end
theorem nrmL_map (l : List AT) (b : Bool) : nrmL l b = l.map (nrm · b) := by
  induction l with
  | nil => rw [nrmL]; rfl
  | cons x r ih => rw [nrmL, ih]; rfl
mutual
/-- ANot only at the ends. -/
def plB : AT → Bool
  | .mk k _ _ _ xs => (decide (k ≠ 4) || (decide (xs.length = 1) && decide ((xs.getD 0 zeroA).xs.length = 0))) && plL xs
def plL : List AT → Bool
  | [] => true
  | x :: r => plB x && plL r
end
theorem plL_all (l : List AT) : plL l = l.all plB := by
  induction l with
  | nil => rw [plL]; rfl
  | cons x r ih => rw [plL, ih]; rfl

/-- What an ask that is well formed looks like. -/
theorem ask_cases {k : Int} {key val : ByteArray} {n : Int} {xs : List AT} (h : errA (.mk k key val n xs) = 0) :
    (k = 4 ∧ ∃ x, xs = [x] ∧ errA x = 0) ∨ ((k = 5 ∨ k = 6) ∧ ∃ x y, xs = [x, y] ∧ errA x = 0 ∧ errA y = 0) ∨ (1 ≤ k ∧ k < 4 ∧ xs = []) := by
  obtain ⟨h1, hsub⟩ := errA_node h
  have h1 : err1 k key val n xs.length = 0 := h1
  have hsub : ∀ x ∈ xs, errA x = 0 := hsub
  have hlen := err1_len h1
  have hin : ¬ (k < 1 ∨ 6 < k) := fun hb => by
    unfold err1 at h1; rw [if_pos hb] at h1; omega
  unfold inner at hlen
  by_cases h4 : k = 4
  · rw [if_neg (by omega), if_pos h4] at hlen
    match xs, hlen with
    | [x], _ => exact .inl ⟨h4, x, rfl, hsub x (by simp)⟩
  · by_cases h5 : k = 5 ∨ k = 6
    · rw [if_pos h5] at hlen
      match xs, hlen with
      | [x, y], _ => exact .inr (.inl ⟨h5, x, y, rfl, hsub x (by simp), hsub y (by simp)⟩)
    · rw [if_neg h5, if_neg h4] at hlen
      exact .inr (.inr ⟨by omega, by omega, List.length_eq_zero_iff.1 hlen⟩)

theorem nrm4 (key val : ByteArray) (n : Int) (x : AT) (b : Bool) : nrm (.mk 4 key val n [x]) b = nrm x (!b) := by
  rw [nrm, if_pos rfl, nrmL]; rfl
theorem nrm56 {k : Int} (hk : k = 5 ∨ k = 6) (key val : ByteArray) (n : Int) (x y : AT) (b : Bool) : nrm (.mk k key val n [x, y]) b = .mk (if b = true then 11 - k else k) emS emS 0 [nrm x b, nrm y b] := by
  rw [nrm, if_neg (by omega), if_pos hk, nrmL, nrmL, nrmL]
theorem nrmT {k : Int} (hk : k < 4) (key val : ByteArray) (n : Int) (xs : List AT) : nrm (.mk k key val n xs) true = .mk 4 emS emS 0 [.mk k key val n xs] := by
  rw [nrm, if_neg (by omega), if_neg (by omega), if_pos rfl]
theorem nrmF {k : Int} (hk : k < 4) (key val : ByteArray) (n : Int) (xs : List AT) : nrm (.mk k key val n xs) false = .mk k key val n xs := by
  rw [nrm, if_neg (by omega), if_neg (by omega), if_neg (by simp)]

theorem err1_op {k : Int} (hk : 4 ≤ k ∧ k ≤ 6) : err1 k emS emS 0 (inner k) = 0 := by
  have : k = 4 ∨ k = 5 ∨ k = 6 := by omega
  rcases this with rfl | rfl | rfl <;> simp [err1]
theorem errA_op {k : Int} (hk : 4 ≤ k ∧ k ≤ 6) {l : List AT} (hl : l.length = inner k) (h : ∀ x ∈ l, errA x = 0) : errA (.mk k emS emS 0 l) = 0 := by
  rw [errA, hl, err1_op hk, if_neg (by simp)]
  exact errL_zero.2 h

/-- All that is needed of a normal form. -/
theorem nrm_ok (at_ : AT → Bool) : ∀ t : AT, errA t = 0 → WfA t → ∀ b, errA (nrm t b) = 0 ∧ WfA (nrm t b) ∧ valA at_ (nrm t b) = (valA at_ t != b) ∧ nrm (nrm t b) false = nrm t b ∧ plB (nrm t b) = true := by
  intro t
  induction t using AT.ind with
  | h k key val n xs ih =>
    intro he hw b
    rcases ask_cases he with ⟨rfl, x, rfl, hx⟩ | ⟨hk, x, y, rfl, hx, hy⟩ | ⟨h1, h4, rfl⟩
    · rw [nrm4]
      obtain ⟨a1, a2, a3, a4, a5⟩ := ih x (by simp) hx (hw.sub x (by simp [AT.xs])) (!b)
      refine ⟨a1, a2, ?_, a4, a5⟩
      rw [a3, show valA at_ (.mk 4 key val n [x]) = !valA at_ x by rw [valA, valL, valL]; rfl]
      cases valA at_ x <;> cases b <;> rfl
    · rw [nrm56 hk]
      obtain ⟨a1, a2, a3, a4, a5⟩ := ih x (by simp) hx (hw.sub x (by simp [AT.xs])) b
      obtain ⟨b1, b2, b3, b4, b5⟩ := ih y (by simp) hy (hw.sub y (by simp [AT.xs])) b
      obtain ⟨k', hk'⟩ : ∃ k', k' = if b = true then 11 - k else k := ⟨_, rfl⟩
      rw [← hk']
      have hk5 : k' = 5 ∨ k' = 6 := by rw [hk']; split <;> omega
      refine ⟨errA_op (by omega) (by unfold inner; rw [if_pos hk5]; rfl) (by intro z hz; simp at hz; rcases hz with rfl | rfl <;> assumption), opA_wf (by omega) (by simp) (by intro z hz; simp at hz; rcases hz with rfl | rfl <;> assumption), ?_, ?_, ?_⟩
      · have v : ∀ (kk : Int) (ky vl : ByteArray) (m : Int) (u v : AT), (kk = 5 ∨ kk = 6) → valA at_ (.mk kk ky vl m [u, v]) = if kk = 5 then valA at_ u && valA at_ v else valA at_ u || valA at_ v := fun kk ky vl m u v hkk => by
          rw [valA, valL, valL, valL, if_neg (by omega)]
          rcases hkk with rfl | rfl <;> simp
        rw [v _ _ _ _ _ _ hk5, v _ _ _ _ _ _ hk, a3, b3, hk']
        rcases hk with rfl | rfl <;> cases b <;> cases valA at_ x <;> cases valA at_ y <;> rfl
      · rw [nrm56 hk5, if_neg (by simp), a4, b4]
      · rw [plB, plL, plL, plL, a5, b5, show decide (k' ≠ 4) = true by rw [decide_eq_true_iff]; omega]; rfl
    · have hwa := hw
      cases b with
      | true =>
        rw [nrmT h4]
        refine ⟨errA_op (by omega) rfl (by intro z hz; simp at hz; subst hz; exact he), opA_wf (by omega) (by simp) (by intro z hz; simp at hz; subst hz; exact hw), ?_, ?_, ?_⟩
        · rw [valA, valL, valL]
          cases valA at_ (.mk k key val n []) <;> rfl
        · rw [nrm4, Bool.not_false, nrmT h4]
        · rw [plB, plL, plL, plB, plL]
          simp [AT.xs]
          omega
      | false =>
        rw [nrmF h4]
        refine ⟨he, hw, by cases valA at_ (.mk k key val n []) <;> rfl, nrmF h4 _ _ _ _, ?_⟩
        rw [plB, plL]
        simp
        omega

theorem cell_same {w w' : World} {p : Option Addr} (h : ∀ a, p = some a → w'.heap[a.block]? = w.heap[a.block]?) {i : Nat} {v : Value} (hc : Go.Sx.cell w p i = some v) : Go.Sx.cell w' p i = some v := by
  cases p with
  | none => exact hc
  | some a =>
    have := h a rfl
    simp only [Go.Sx.cell, Option.bind_some] at hc ⊢
    unfold World.cell? at hc ⊢
    rw [add_block, this]
    rw [add_block] at hc
    exact hc

theorem norm_k : ∀ (t : AT) (p : Option Addr) (c : Nat) (b : Bool) (w0 w : World), Ext w0 w → IsT w0 t p c → errA t = 0 →
    FnP Tryd.prog F_ask_norm #[av t p c, .bool b] w fun v w' => Ext w w' ∧ ∃ p' c', v = av (nrm t b) p' c' ∧ ∀ w'', Ext w0 w'' → (∀ k, w.heap.size ≤ k → k < w'.heap.size → w''.heap[k]? = w'.heap[k]?) → IsT w'' (nrm t b) p' c' := by
  intro t
  induction t using AT.ind with
  | h k key val n xs ih =>
    intro p c b w0 w hx0 hT he
    -- what is read of an inner one
    have sub : ∀ (i : Int), 0 ≤ i → i < xs.length → ∃ x p' c', xs[i.toNat]? = some x ∧ p ≠ none ∧ pIdx p i 5 ≠ none ∧ Go.Sx.cell w (pIdx p i 5) 0 = some (.int .i64 x.k) ∧ Go.Sx.cell w (pIdx p i 5) 1 = some (.string x.key) ∧ Go.Sx.cell w (pIdx p i 5) 2 = some (.string x.val) ∧
        Go.Sx.cell w (pIdx p i 5) 3 = some (.int .i64 x.n) ∧ Go.Sx.cell w (pIdx p i 5) 4 = some (.slice p' x.xs.length c') ∧ IsT w0 x p' c' := fun i h0 hi => by
      obtain ⟨x, p', c', hx, hmem, hIx, hp, hp5, g0, g1, g2, g3, g4⟩ := hT.at h0 (by exact hi)
      exact ⟨x, p', c', hx, hp, hp5, ext_cell hx0 g0, ext_cell hx0 g1, ext_cell hx0 g2, ext_cell hx0 g3, ext_cell hx0 g4, hIx⟩
    refine ok_ask_norm k key val n p xs.length c b w _ fun b0 hb0 b1 hb1 => ?_
    have atomT : (k < 4) → ∀ w2, ExtB [] [b0, b1] w w2 → Run Tryd.prog (.buildSlice T_sl_Ask 1 [(0, av (.mk k key val n xs) p c)]) w2 fun v3 w3 => Ext w2 w3 ∧ ∃ t4 : Option Addr, ∃ tl5 : Nat, ∃ tc6 : Nat, v3 = (.slice t4 tl5 tc6) ∧ ∀ w7, ExtB [b1] [] w3 w7 →
        (Ext w w7 ∧ ∃ p' c', Value.agg #[.int .i64 4, .string (⟨#[]⟩ : ByteArray), .string (⟨#[]⟩ : ByteArray), .int .i64 0, .slice t4 tl5 tc6] = av (nrm (.mk k key val n xs) true) p' c' ∧ ∀ w'', Ext w0 w'' → (∀ k, w.heap.size ≤ k → k < w7.heap.size → w''.heap[k]? = w7.heap[k]?) → IsT w'' (nrm (.mk k key val n xs) true) p' c') := fun h4 w2 x2 => by
      have h2 := extB_ext x2
      have hb1' := x2.lt b1 (by simp)
      refine run_lit elem_sl_Ask [av (.mk k key val n xs) p c] rfl rfl (by intro v hv; simp at hv; subst hv; rfl) (by omega) (by omega) fun w3 o3 e3 => ⟨e3, _, _, _, rfl, fun w7 x7 => ⟨extB1 x7 (h2.trans e3) hb1, some ⟨w2.heap.size, 0, none⟩, 1, ?_, fun w'' hx'' hag => ?_⟩⟩
      · rw [nrmT h4]; rfl
      · rw [nrmT h4]
        have o := o3 0 (Nat.zero_le _)
        have hlt := o.lt _ rfl
        have hb : w''.heap[w2.heap.size]? = w3.heap[w2.heap.size]? := by
          rw [hag _ h2.size (by have := x7.size; simp only [] at hlt; omega)]
          exact x7.block _ (by simpa using hlt.2) (by simp; omega)
        unfold IsT
        refine ⟨by simp, isL_lit (l := [(.mk k key val n xs, p, c)]) (fun j u hu => ?_) (by intro z hz; simp at hz; subst hz; exact hT.ext hx'' _ _ _)⟩
        refine cell_same (w := w3) (fun a ha => by obtain rfl := Option.some.inj ha; exact hb) ?_
        simpa using o.cells j u (by simpa [Value.cells, encA, AT.k, AT.key, AT.val, AT.n, AT.xs] using hu)
    have pair : (k = 5 ∨ k = 6) → ∃ x y : AT, xs = [x, y] ∧ errA x = 0 ∧ errA y = 0 := fun hk => by
      rcases ask_cases he with ⟨h, _⟩ | ⟨_, x, y, h, hx, hy⟩ | ⟨_, h, _⟩
      · omega
      · exact ⟨x, y, h, hx, hy⟩
      · omega
    have two : ∀ {x y : AT} {px py : Option Addr} {cx cy : Nat}, (k = 5 ∨ k = 6) → xs = [x, y] → errA x = 0 → errA y = 0 → IsT w0 x px cx → IsT w0 y py cy → ∀ k' : Int, k' = (if b = true then 11 - k else k) → ∀ w16, ExtB [] [b0, b1] w w16 →
        FnP Tryd.prog F_ask_norm #[av x px cx, .bool b] w16 fun v17 w17 => Ext w16 w17 ∧ ∃ t_018 : Int, ∃ t_119 : ByteArray, ∃ t_220 : ByteArray, ∃ t_321 : Int, ∃ t_422 : Option Addr, ∃ t_4l23 : Nat, ∃ t_4c24 : Nat, v17 = (.agg #[(.int .i64 t_018), (.string t_119), (.string t_220), (.int .i64 t_321), (.slice t_422 t_4l23 t_4c24)]) ∧
         ∀ w25, ExtB [] [b0, b1] w17 w25 → FnP Tryd.prog F_ask_norm #[av y py cy, .bool b] w25 fun v26 w26 => Ext w25 w26 ∧ ∃ t_027 : Int, ∃ t_128 : ByteArray, ∃ t_229 : ByteArray, ∃ t_330 : Int, ∃ t_431 : Option Addr, ∃ t_4l32 : Nat, ∃ t_4c33 : Nat, v26 = (.agg #[(.int .i64 t_027), (.string t_128), (.string t_229), (.int .i64 t_330), (.slice t_431 t_4l32 t_4c33)]) ∧
          ∀ w34, ExtB [] [b0, b1] w26 w34 → Run Tryd.prog (.buildSlice T_sl_Ask 2 [(0, (.agg #[(.int .i64 t_018), (.string t_119), (.string t_220), (.int .i64 t_321), (.slice t_422 t_4l23 t_4c24)])), (1, (.agg #[(.int .i64 t_027), (.string t_128), (.string t_229), (.int .i64 t_330), (.slice t_431 t_4l32 t_4c33)]))]) w34 fun v35 w35 =>
           Ext w34 w35 ∧ ∃ t36 : Option Addr, ∃ tl37 : Nat, ∃ tc38 : Nat, v35 = (.slice t36 tl37 tc38) ∧ ∀ w39, ExtB [b1] [] w35 w39 →
           (Ext w w39 ∧ ∃ p' c', Value.agg #[.int .i64 k', .string (⟨#[]⟩ : ByteArray), .string (⟨#[]⟩ : ByteArray), .int .i64 0, .slice t36 tl37 tc38] = av (nrm (.mk k key val n xs) b) p' c' ∧ ∀ w'', Ext w0 w'' → (∀ k, w.heap.size ≤ k → k < w39.heap.size → w''.heap[k]? = w39.heap[k]?) → IsT w'' (nrm (.mk k key val n xs) b) p' c') := by
      intro x y px py cx cy hk hxs hex hey hIx hIy k' hk' w16 x16
      have h16 := extB_ext x16
      have hb16 := x16.lt b1 (by simp)
      refine (ih x (by rw [hxs]; simp) px cx b w0 w16 (hx0.trans h16) hIx hex).mono fun v w17 ⟨e17, p1, c1, hv, hI1⟩ => ⟨e17, _, _, _, _, _, _, _, hv, fun w25 x25 => ?_⟩
      have h25 := extB_ext x25
      have x25' := (h16.trans e17).trans h25
      refine (ih y (by rw [hxs]; simp) py cy b w0 w25 (hx0.trans x25') hIy hey).mono fun v w26 ⟨e26, p2, c2, hv, hI2⟩ => ⟨e26, _, _, _, _, _, _, _, hv, fun w34 x34 => ?_⟩
      have h34 := extB_ext x34
      refine run_lit elem_sl_Ask [av (nrm x b) p1 c1, av (nrm y b) p2 c2] rfl rfl (by intro v hv; simp at hv; rcases hv with rfl | rfl <;> rfl) (by omega) (by omega) fun w35 o35 e35 => ⟨e35, _, _, _, rfl, fun w39 x39 => ?_⟩
      have x35 := ((x25'.trans e26).trans h34).trans e35
      refine ⟨extB1 x39 x35 hb1, some ⟨w34.heap.size, 0, none⟩, 2, ?_, fun w'' hx'' hag => ?_⟩
      · rw [hxs, nrm56 hk, hk']; rfl
      · rw [hxs, nrm56 hk]
        have o := o35 0 (Nat.zero_le _)
        have hlt := o.lt _ rfl
        have s1 := h16.size
        have s2 := e17.size
        have s3 := h25.size
        have s4 := e26.size
        have s5 := h34.size
        have s6 := e35.size
        have s7 := x39.size
        -- what lies above where it began
        have same : ∀ j, w16.heap.size ≤ j → j < w35.heap.size → w''.heap[j]? = w35.heap[j]? := fun j h1 h2 => by
          rw [hag j (by omega) (by omega)]
          exact x39.block j h2 (by simp; omega)
        have n1 : IsT w'' (nrm x b) p1 c1 := hI1 w'' hx'' fun j h1 h2 => by
          rw [same j h1 (by omega), e35.block j (by omega), h34.block j (by omega), e26.block j (by omega), h25.block j (by omega)]
        have n2 : IsT w'' (nrm y b) p2 c2 := hI2 w'' hx'' fun j h1 h2 => by
          rw [same j (by omega) (by omega), e35.block j (by omega), h34.block j (by omega)]
        unfold IsT
        refine ⟨by simp, isL_lit (l := [(nrm x b, p1, c1), (nrm y b, p2, c2)]) (fun j u hu => ?_) (by intro z hz; simp at hz; rcases hz with rfl | rfl <;> assumption)⟩
        refine cell_same (w := w35) (fun a ha => by obtain rfl := Option.some.inj ha; exact same _ (by show w16.heap.size ≤ w34.heap.size; omega) (by simpa using hlt.2)) ?_
        simpa using o.cells j u (by simpa [Value.cells, encA] using hu)
    refine ⟨fun h4 => ?_, fun h4 => ⟨fun h5 => ⟨fun _ => ?_, fun h => absurd h5 h⟩, fun h5 => ⟨fun h6 => ?_, fun h6 => ?_⟩⟩⟩
    · subst h4
      obtain ⟨x, rfl, hex⟩ : ∃ x, xs = [x] ∧ errA x = 0 := by
        rcases ask_cases he with ⟨_, x, h, hx⟩ | ⟨h, _⟩ | ⟨_, h, _⟩
        · exact ⟨x, h, hx⟩
        · omega
        · omega
      obtain ⟨x', p', c', hx', hp, hp5, g0, g1, g2, g3, g4, hIx⟩ := sub 0 (by omega) (by simp)
      obtain rfl : x = x' := by simpa using hx'
      refine ⟨hp, by omega, by simp, hp5, _, g0, _, g1, _, g2, _, g3, _, _, _, g4, fun w9 x9 => ?_⟩
      have h9 := extB_ext x9
      have hb9 := x9.lt b1 (by simp)
      refine (ih x (by simp) p' c' (!b) w0 w9 (hx0.trans h9) hIx hex).mono fun v w10 ⟨e10, p1, c1, hv, hI⟩ => ⟨e10, _, _, _, _, _, _, _, hv, fun w18 x18 => ⟨extB1 x18 (h9.trans e10) hb1, p1, c1, ?_, fun w'' hx'' hag => ?_⟩⟩
      · rw [nrm4]
      · rw [nrm4]
        refine hI w'' hx'' fun j h1 h2 => ?_
        have := h9.size
        rw [hag j (by omega) (by have := x18.size; omega)]
        exact x18.block j h2 (by simp; omega)
    · obtain ⟨x, y, rfl, hex, hey⟩ := pair (.inl h5)
      obtain ⟨x', p1, c1, hx', hp, hp5, g0, g1, g2, g3, g4, hIx⟩ := sub 0 (by omega) (by simp)
      obtain rfl : x = x' := by simpa using hx'
      obtain ⟨y', p2, c2, hy', hq, hq5, f0, f1, f2, f3, f4, hIy⟩ := sub 1 (by omega) (by simp)
      obtain rfl : y = y' := by simpa using hy'
      refine ⟨fun ht => ⟨i64 (by omega), hp, by omega, by simp, hp5, _, g0, _, g1, _, g2, _, g3, _, _, _, g4, hq, by omega, by simp, hq5, _, f0, _, f1, _, f2, _, f3, _, _, _, f4, two (.inl h5) rfl hex hey hIx hIy _ (by rw [if_pos ht])⟩, fun hf => ⟨hp, by omega, by simp, hp5, _, g0, _, g1, _, g2, _, g3, _, _, _, g4, hq, by omega, by simp, hq5, _, f0, _, f1, _, f2, _, f3, _, _, _, f4, two (.inl h5) rfl hex hey hIx hIy _ (by rw [if_neg (by simp [hf])])⟩⟩
    · obtain ⟨x, y, rfl, hex, hey⟩ := pair (.inr h6)
      obtain ⟨x', p1, c1, hx', hp, hp5, g0, g1, g2, g3, g4, hIx⟩ := sub 0 (by omega) (by simp)
      obtain rfl : x = x' := by simpa using hx'
      obtain ⟨y', p2, c2, hy', hq, hq5, f0, f1, f2, f3, f4, hIy⟩ := sub 1 (by omega) (by simp)
      obtain rfl : y = y' := by simpa using hy'
      refine ⟨fun ht => ⟨i64 (by omega), hp, by omega, by simp, hp5, _, g0, _, g1, _, g2, _, g3, _, _, _, g4, hq, by omega, by simp, hq5, _, f0, _, f1, _, f2, _, f3, _, _, _, f4, two (.inr h6) rfl hex hey hIx hIy _ (by rw [if_pos ht])⟩, fun hf => ⟨hp, by omega, by simp, hp5, _, g0, _, g1, _, g2, _, g3, _, _, _, g4, hq, by omega, by simp, hq5, _, f0, _, f1, _, f2, _, f3, _, _, _, f4, two (.inr h6) rfl hex hey hIx hIy _ (by rw [if_neg (by simp [hf])])⟩⟩
    · have hlt : k < 4 := by
        rcases ask_cases he with ⟨h, _⟩ | ⟨h, _⟩ | ⟨_, h, _⟩
        · omega
        · omega
        · exact h
      refine ⟨fun ht => ?_, fun hf w2 h2 => ⟨h2, p, c, ?_, fun w'' hx'' _ => ?_⟩⟩
      · subst ht; exact atomT hlt
      · subst hf; rw [nrmF hlt]; rfl
      · subst hf; rw [nrmF hlt]; exact hT.ext hx'' _ _ _

theorem Norm_k (t : AT) (p : Option Addr) (c : Nat) (w : World) (hT : IsT w t p c) (hW : WfA t) :
    FnP Tryd.prog F_ask_Norm #[av t p c] w fun v w' => Ext w w' ∧ ∃ y p' c' e, v = .tuple #[av y p' c', .int .i64 e] ∧ IsT w' y p' c' ∧ ((e ≠ 0 ∧ y = zeroA) ∨ (e = 0 ∧ errC t = 0 ∧ y = nrm t false)) ∧ (e = 0 ↔ errC t = 0 ∧ cntA (nrm t false) ≤ 60) := by
  have hz : ∀ w, IsT w zeroA none 0 := fun w => by unfold IsT; exact ⟨by simp, by unfold IsL; trivial⟩
  refine ok_ask_Norm t.k t.key t.val t.n p t.xs.length c w _ fun b0 hb0 b1 hb1 w2 h2 => ?_
  refine (Check_k t p c w2 (hT.ext h2 _ _ _) hW).mono fun v w3 ⟨e3, hv⟩ => ⟨e3, _, hv, fun hne w5 h5 => ⟨h5, zeroA, none, 0, _, rfl, hz _, .inl ⟨hne, rfl⟩, fun h => absurd h hne, fun h => absurd h.1 hne⟩, fun he w5 x5 => ?_⟩
  have h5 := extB_ext x5
  have hb5 := x5.lt b1 (by simp)
  have heA : errA t = 0 := by
    unfold errC at he
    split at he
    · omega
    · exact he
  refine (norm_k t p c false w w5 h5 hT heA).mono fun v w6 ⟨e6, p', c', hv, hI⟩ => ⟨e6, _, _, _, _, _, _, _, hv, fun b14 hb14 w15 h15 => ?_⟩
  obtain ⟨n1, n2, _⟩ := nrm_ok (fun _ => true) t heA hW false
  have I6 : IsT w6 (nrm t false) p' c' := hI w6 (h5.trans e6) fun _ _ _ => rfl
  refine (count_k (nrm t false) p' c' w15 (I6.ext h15 _ _ _) n2).mono fun v w16 ⟨e16, hv⟩ => ⟨e16, _, hv, fun hgt w18 x18 => ⟨extB1 x18 (h5.trans e6) hb1, zeroA, none, 0, _, rfl, hz _, .inl ⟨by omega, rfl⟩, fun h => by omega, fun h => by omega⟩, fun hle w18 x18 => ⟨extB1 x18 (h5.trans e6) hb1, nrm t false, p', c', _, rfl, ?_, .inr ⟨rfl, he, rfl⟩, fun _ => ⟨he, hle⟩, fun _ => rfl⟩⟩
  exact hI w18 (extB1 x18 (h5.trans e6) hb1) fun j h1 h2 => x18.block j h2 (by simp; omega)
end Go.Proofs.YteelndoflikliaaDoor
