/- Hosts in new memory; what is taken of them and given back. -/
import Derived.Test.YtblafknmfblgfaaHtA
import Derived.Test.YtblafknmfblgfaaSxF
set_option linter.unusedVariables false
set_option linter.unusedSimpArgs false
namespace Go.Proofs.Ytblafknmfblgfaa
open Go.Sx Go.RowKit

theorem setAt_right (xs : List Value) : ∀ (vs ys : List Value) (i : Nat), setAt (xs ++ ys) (xs.length + i) vs = xs ++ setAt ys i vs
  | [], ys, i => rfl
  | v :: r, ys, i => by
    simp only [setAt]
    rw [List.set_append_right _ _ (by omega), show xs.length + i - xs.length = i by omega, show xs.length + i + 1 = xs.length + (i + 1) by omega]
    exact setAt_right xs r _ _
theorem setAt_left (ys : List Value) : ∀ (vs xs : List Value) (i : Nat), i + vs.length ≤ xs.length → setAt (xs ++ ys) i vs = setAt xs i vs ++ ys
  | [], xs, i, _ => rfl
  | v :: r, xs, i, h => by
    simp only [setAt]
    simp only [List.length_cons] at h
    rw [List.set_append_left _ _ (by omega)]
    exact setAt_left ys r _ _ (by simp; omega)
/-- Some cells of one record. -/
theorem recs_part {α : Type} {enc : α → List Value} {s : Nat} (hs : ∀ x, (enc x).length = s) (L : List α) (i j : Nat) (vs : List Value) (x d : α) (hi : i < L.length) (hj : j + vs.length ≤ s) (he : setAt (enc (L.getD i d)) j vs = enc x) :
    setAt (L.flatMap enc) (i * s + j) vs = (L.set i x).flatMap enc := by
  have hd : L.getD i d = L[i] := by simp [List.getD_eq_getElem?_getD, hi]
  have h1 : L = L.take i ++ L[i] :: L.drop (i + 1) := by rw [List.getElem_cons_drop, List.take_append_drop]
  have h2 : L.set i x = L.take i ++ x :: L.drop (i + 1) := by
    rw [List.set_eq_take_append_cons_drop, if_pos hi]
  rw [h2]
  conv => lhs; rw [h1]
  simp only [List.flatMap_append, List.flatMap_cons]
  have hl : ((L.take i).flatMap enc).length = i * s := by rw [recs_len hs, List.length_take, Nat.min_eq_left (by omega)]
  rw [← hl, setAt_right, setAt_left _ _ _ _ (by rw [hs]; omega), ← hd, he]

/-- A host, and where its labels lie. -/
structure Hm where
  h : Ht
  q : Option Addr
  d : Nat
instance : Inhabited Hm := ⟨⟨default, none, 0⟩⟩
abbrev encM (m : Hm) : List Value := encH m.h m.q m.d
theorem encM_len (m : Hm) : (encM m).length = 8 := rfl
theorem encM_one (m : Hm) : ∀ u ∈ encM m, u.oneCell' = true := by
  intro u hu
  simp [encM, encH] at hu
  rcases hu with rfl | rfl | rfl | rfl | rfl | rfl | rfl | rfl <;> rfl
theorem hs_ms {w : World} {p : Option Addr} {L : List Ht} (h : HsAt w p L) : ∃ M : List Hm, M.map (·.h) = L ∧ Recs 8 encM w p M ∧ ∀ m ∈ M, Lbs w m.q m.h.labels := by
  have key : ∀ n, n ≤ L.length → ∃ M : List Hm, M.map (·.h) = L.take n ∧ Recs 8 encM w p M ∧ ∀ m ∈ M, Lbs w m.q m.h.labels := by
    intro n
    induction n with
    | zero => exact fun _ => ⟨[], rfl, fun i x hx => by simp at hx, fun m hm => by simp at hm⟩
    | succ n ih =>
      intro hn
      obtain ⟨M, h1, h2, h3⟩ := ih (by omega)
      have hlen : M.length = n := by have := congrArg List.length h1; simp at this; omega
      obtain ⟨q, c, h4, h5⟩ := h n L[n] (List.getElem?_eq_getElem (by omega))
      refine ⟨M ++ [⟨L[n], q, c⟩], by rw [List.map_append, h1, List.take_succ_eq_append_getElem (by omega)]; rfl, fun i x hx j u hu => ?_, fun m hm => ?_⟩
      · by_cases hi : i < n
        · rw [List.getElem?_append_left (by omega)] at hx
          exact h2 i x hx j u hu
        · rw [List.getElem?_append_right (by omega)] at hx
          have : i - M.length = 0 := by
            rcases Nat.eq_zero_or_pos (i - M.length) with h0 | h0
            · exact h0
            · rw [List.getElem?_eq_none (by simp; omega)] at hx; cases hx
          rw [this] at hx
          simp at hx; subst hx
          obtain rfl : i = n := by omega
          exact h4 j u hu
      · rcases List.mem_append.1 hm with hm | hm
        · exact h3 m hm
        · simp at hm; subst hm; exact h5
  obtain ⟨M, h1, h2⟩ := key L.length (Nat.le_refl _)
  exact ⟨M, by simpa using h1, h2⟩
theorem ms_hs {w : World} {p : Option Addr} {M : List Hm} (h : Recs 8 encM w p M) (hl : ∀ m ∈ M, Lbs w m.q m.h.labels) : HsAt w p (M.map (·.h)) := fun i x hx => by
  rw [List.getElem?_map] at hx
  obtain ⟨m, hm, rfl⟩ := Option.map_eq_some_iff.1 hx
  exact ⟨m.q, m.d, fun j u hu => h i m hm j u hu, hl m (List.mem_of_getElem? hm)⟩

theorem lbs_grew {w w' : World} {q p : Option Addr} {l : List Lb} (h : Lbs w q l) (ha : l = [] ∨ Apart q p) (hg : Grew w w' p p) : Lbs w' q l := by
  rcases ha with rfl | ha
  · exact fun i x hx => by simp at hx
  · intro i x hx j u hu
    have h1 := recs_cells (enc := encLb) (fun _ => rfl) h
    have h2 := h1.grew ha hg
    have h3 : (l.flatMap encLb)[i * 2 + j]? = some u := by
      have hi := (List.getElem?_eq_some_iff.1 hx).1
      have hj : j < 2 := (List.getElem?_eq_some_iff.1 hu).1
      have := recs_drop (enc := encLb) (s := 2) (fun _ => rfl) l i
      rw [← List.getElem?_drop, this, List.drop_eq_getElem_cons hi, List.flatMap_cons, List.getElem?_append_left hj]
      rw [(List.getElem?_eq_some_iff.1 hx).2]; exact hu
    exact h2 _ _ h3

theorem CloneL_k (q : Option Addr) (c : Nat) (l : List Lb) (h8 : l.length ≤ 8) (w : World) (h : Lbs w q l) :
    FnP Try.prog F_slices_Clone_api_Label_api_Label #[.slice q l.length c] w fun v w' => Ext w w' ∧ ∃ q' c', v = .slice q' l.length c' ∧ Lbs w' q' l ∧ ∀ a, q' = some a → w.heap.size ≤ a.block := by
  refine ok_slices_Clone_api_Label_api_Label q l.length c w _ ⟨fun hn w0 h0 => ?_, fun hn => ?_⟩
  · cases l with
    | nil => exact ⟨h0, none, 0, rfl, fun i x hx => by simp at hx, fun a ha => by cases ha⟩
    | cons x r => exact absurd hn (h.ne (List.mem_cons_self ..) (by simp))
  · refine clone_txt (Q := fun v w' => Ext w w' ∧ ∃ q' c', v = .slice q' l.length c' ∧ Lbs w' q' l ∧ ∀ a, q' = some a → w.heap.size ≤ a.block) elem_sl_Label (by omega) (recs_cells (enc := encLb) (s := 2) (fun _ => rfl) h) (recs_len (enc := encLb) (s := 2) (fun _ => rfl) l) (recs_one (fun x u hu => ?_) l) (by omega) (by omega) hn fun p' c' w' hx o => ⟨hx, p', c', rfl, o.recs fun _ _ => rfl, fun a ha => (o.lt a ha).1⟩
    simp at hu; rcases hu with rfl | rfl <;> rfl

theorem CloneH_k (p : Option Addr) (c : Nat) (M : List Hm) (h30 : M.length ≤ 30) (w : World) (h : Recs 8 encM w p M) :
    FnP Try.prog F_slices_Clone_api_Host_api_Host #[.slice p M.length c] w fun v w' => Ext w w' ∧ ∃ q' c', v = .slice q' M.length c' ∧ Own w.heap.size w' T_Host 8 q' M.length c' (M.flatMap encM) := by
  refine ok_slices_Clone_api_Host_api_Host p M.length c w _ ⟨fun hn w0 h0 => ?_, fun hn => ?_⟩
  · cases M with
    | nil => exact ⟨h0, none, 0, rfl, Own.nil⟩
    | cons x r => exact absurd hn (h.ne (List.mem_cons_self ..) (by simp))
  · exact clone_txt (Q := fun v w' => Ext w w' ∧ ∃ q' c', v = .slice q' M.length c' ∧ Own w.heap.size w' T_Host 8 q' M.length c' (M.flatMap encM)) elem_sl_Host (by omega) (recs_cells encM_len h) (recs_len encM_len M) (recs_one encM_one M) (by omega) (by omega) hn fun p' c' w' hx o => ⟨hx, p', c', rfl, o⟩

def LbA (w : World) (p : Option Addr) (m : Hm) : Prop := Lbs w m.q m.h.labels ∧ (m.h.labels = [] ∨ Apart m.q p)
/-- Labels that lie behind n. -/
def LbN (n : Nat) (m : Hm) : Prop := m.h.labels = [] ∨ ∀ a, m.q = some a → n ≤ a.block
/-- A row of hosts all of which lies in memory behind n: it is kept by whoever turns only what was ahead of n. -/
def HsS (n : Nat) (w : World) (p : Option Addr) (L : List Ht) : Prop := ∀ S : Nat → Prop, (∀ b, S b → b < n) → ∀ w'', Fr S w w'' → HsAt w'' p L
theorem HsS.at {n : Nat} {w : World} {p : Option Addr} {L : List Ht} (h : HsS n w p L) : HsAt w p L := h (fun _ => False) (fun _ h => h.elim) w (Fr.refl _ w)
theorem HsS.ext {n : Nat} {w w' : World} {p : Option Addr} {L : List Ht} (h : HsS n w p L) (e : Ext w w') : HsS n w' p L := fun S hS w'' f => h S hS w'' ((fr_ext e).tr f)
theorem HsS.weak {n m : Nat} {w : World} {p : Option Addr} {L : List Ht} (h : HsS n w p L) (e : m ≤ n) : HsS m w p L := fun S hS w'' f => h S (fun b hb => Nat.lt_of_lt_of_le (hS b hb) e) w'' f
theorem lbs_fr {S : Nat → Prop} {w w' : World} {q : Option Addr} {l : List Lb} (h : Lbs w q l) (ha : l = [] ∨ ∀ a, q = some a → ¬ S a.block) (k : Fr S w w') : Lbs w' q l := fun i x hx j u hu => by
  rcases ha with rfl | ha
  · simp at hx
  · exact cell_fr (h i x hx j u hu) k ha
theorem hsS_of {n N c : Nat} {w : World} {p : Option Addr} {M : List Hm} (o : Own n w T_Host 8 p N c (M.flatMap encM)) (hl : ∀ m ∈ M, Lbs w m.q m.h.labels) (hn : ∀ m ∈ M, LbN n m) : HsS n w p (M.map (·.h)) := fun S hS w'' f => by
  have lt : ∀ {a : Option Addr}, (∀ y, a = some y → n ≤ y.block) → ∀ y, a = some y → ¬ S y.block := fun h y hy hs => by
    have := h y hy
    have := hS _ hs
    omega
  refine ms_hs ((o.fr f (lt fun y hy => (o.lt y hy).1)).recs fun _ _ => rfl) fun m hm => lbs_fr (hl m hm) ?_ f
  rcases hn m hm with h | h
  · exact .inl h
  · exact .inr (lt h)

theorem own_k (p : Option Addr) (c : Nat) (L : List Ht) (h30 : L.length ≤ 30) (h8 : ∀ h ∈ L, h.labels.length ≤ 8) (w : World) (hL : HsAt w p L) :
    FnP Try.prog F_host_own #[.slice p L.length c] w fun v w' => Ext w w' ∧ ∃ p' c', ∃ M : List Hm, v = .slice p' L.length c' ∧ M.map (·.h) = L ∧ Own w.heap.size w' T_Host 8 p' L.length c' (M.flatMap encM) ∧ (∀ m ∈ M, LbA w' p' m) ∧ ∀ m ∈ M, LbN w.heap.size m := by
  refine ok_host_own p L.length c w _ fun w0 h0 => ?_
  obtain ⟨M0, hM0, hR0, hl0⟩ := hs_ms (hL.ext h0)
  have hlen0 : M0.length = L.length := by rw [← hM0]; simp
  rw [← hlen0]
  refine (CloneH_k p c M0 (by omega) w0 hR0).mono fun v w1 ⟨e1, p', c', hv, o1⟩ => ⟨e1, p', M0.length, c', hv, ?_⟩
  have lt0 : ∀ m ∈ M0, LbA w1 p' m := fun m hm => ⟨(hl0 m hm).ext e1, by
    cases hlb : m.h.labels with
    | nil => exact .inl rfl
    | cons x r =>
      refine .inr fun a b ha hb => ?_
      have := (hl0 m hm).lt (x := x) (by rw [hlb]; exact List.mem_cons_self ..) (by simp) a ha
      have := (o1.lt b hb).1
      omega⟩
  refine ⟨fun k w' => Ext w w' ∧ 0 ≤ k ∧ k ≤ M0.length ∧ ∃ M : List Hm, M.map (·.h) = L ∧ Own w0.heap.size w' T_Host 8 p' M0.length c' (M.flatMap encM) ∧ (∀ m ∈ M, LbA w' p' m) ∧ ∀ j, j < k.toNat → ∀ m, M[j]? = some m → LbN w.heap.size m, fun k _ => (M0.length - k).toNat, ⟨h0.trans e1, by omega, by omega, M0, hM0, o1, lt0, fun j hj => by simp at hj⟩, ?_⟩
  rintro k w7 ⟨x7, hk0, hk1, M, hM, o7, hA7, hN7⟩
  have hlen : M.length = M0.length := by rw [hlen0, ← hM]; simp
  refine ⟨fun hlt => ?_, fun hge w8 h8 => ⟨x7.trans h8, p', c', M, rfl, hM, (o7.ext h8).weak h0.size, fun m hm => ⟨(hA7 m hm).1.ext h8, (hA7 m hm).2⟩, fun m hm => by
    obtain ⟨j, hj⟩ := List.mem_iff_getElem?.1 hm
    have hjl := (List.getElem?_eq_some_iff.1 hj).1
    exact hN7 j (by omega) m hj⟩⟩
  have r7 : Recs 8 encM w7 p' M := o7.recs fun _ _ => rfl
  have g := r7.idx default hk0 (by omega) (j := 1) rfl
  have hp' := o7.ne1 (by omega) (by omega)
  have hm := getD_mem M default (i := k.toNat) (by omega)
  generalize hmd : M.getD k.toNat default = m at g hm
  have hml : m.h ∈ L := by rw [← hM]; exact List.mem_map_of_mem hm
  refine ⟨hp', hk0, hlt, fun hq => hp' (pIdx_none.1 hq), m.q, m.h.labels.length, m.d, by rw [cell_pAdd]; exact g, fun w11 h11 => ?_⟩
  refine (CloneL_k m.q m.d m.h.labels (h8 _ hml) w11 ((hA7 m hm).1.ext h11)).mono fun v w12 ⟨e12, q', d', hv, hl', hn'⟩ => ⟨e12, q', _, d', hv, hp', hk0, hlt, fun hq => hp' (pIdx_none.1 hq), ?_⟩
  have x12 := h11.trans e12
  have o12 := o7.ext x12
  refine store_own o12 pAdd_map (by rw [recs_len encM_len]; simp; omega) (by simp) (by intro v hv; simp at hv; subst hv; rfl) (by simp) fun w16 o16 g16 => ?_
  rw [recs_part encM_len M k.toNat 1 [.slice q' m.h.labels.length d'] ⟨m.h, q', d'⟩ default (by omega) (by simp) (by rw [hmd]; rfl)] at o16
  have hmap : (M.set k.toNat ⟨m.h, q', d'⟩).map (·.h) = L := by
    rw [List.map_set, hM]
    have hk : k.toNat < L.length := by omega
    have : L[k.toNat] = m.h := by
      have h1 : (M.map (·.h)).getD k.toNat default = m.h := by
        rw [← hmd, List.getD_eq_getElem?_getD, List.getD_eq_getElem?_getD, List.getElem?_map, List.getElem?_eq_getElem (by omega : k.toNat < M.length)]; rfl
      rw [hM] at h1
      simpa [List.getD_eq_getElem?_getD, hk] using h1
    rw [← this, List.set_getElem_self]
  refine ⟨i64 (by omega), ⟨?_, by omega, by omega, _, hmap, o16, fun m' hm' => ?_, fun j hj m' hm' => ?_⟩, by simp only []; omega⟩
  · exact g16.ext (x7.trans x12) (o12.weak (by have := h0.size; omega))
  · rcases List.mem_or_eq_of_mem_set hm' with hm' | rfl
    · exact ⟨lbs_grew ((hA7 m' hm').1.ext x12) (hA7 m' hm').2 g16, (hA7 m' hm').2⟩
    · have ha : Apart q' p' := fun a b ha hb => by
        have := hn' a ha
        have := (o7.lt b hb).2
        have := h11.size
        omega
      exact ⟨lbs_grew hl' (.inr ha) g16, .inr ha⟩
  · by_cases hjk : j = k.toNat
    · subst hjk
      rw [List.getElem?_set_self (by omega)] at hm'
      obtain rfl := Option.some.inj hm'
      exact .inr fun a ha => (by have := hn' a ha; have := x7.size; have := h11.size; omega)
    · rw [List.getElem?_set_ne (by omega)] at hm'
      exact hN7 j (by omega) m' hm'

def usedH (h : Ht) (s : Nd) : Ht := ⟨h.name, h.labels, h.has, s⟩
/-- What change answers, if f answers so of the host. -/
theorem change_k (R : Ht → Nd → Int → Prop) (p : Option Addr) (c : Nat) (L : List Ht) (h63 : (L.length : Int) ≤ 9223372036854775807) (hO : ∀ h ∈ L, HtOk h) (i : Int) (f : Value) (w : World) (hL : HsAt w p L)
    (hf : ∀ h ∈ L, okH1 h → ∀ q d w', Ext w w' → FnVP Try.prog f [hv h q d] w' fun v w'' => Ext w' w'' ∧ ∃ s e, v = .tuple #[nv s, .int .i64 e] ∧ R h s e) :
    FnP Try.prog F_host_change #[.slice p L.length c, .int .i64 i, f] w fun v w' => Ext w w' ∧ ∃ p' n' c' e, v = .tuple #[.slice p' n' c', .int .i64 e] ∧
      ((e ≠ 0 ∧ n' = 0 ∧ (okHs L → 0 ≤ i → i < L.length → ∃ s, R (L.getD i.toNat default) s e)) ∨
       (e = 0 ∧ okHs L ∧ 0 ≤ i ∧ i < L.length ∧ n' = L.length ∧ n' ≤ c' ∧ ∃ s, R (L.getD i.toNat default) s 0 ∧ HsS w.heap.size w' p' (L.set i.toNat (usedH (L.getD i.toNat default) s)))) := by
  refine ok_host_change p L.length c i f w _ fun w0 h0 => ?_
  refine (hcheck_k p c L h63 hO w0 (hL.ext h0)).mono fun v w1 ⟨e1, e, hv, he, _, _⟩ => ⟨e1, e, hv, fun hne w3 h3 => ⟨h3, _, _, _, _, rfl, .inl ⟨hne, rfl, fun ho => absurd (he.2 ho) hne⟩⟩, fun h0' => ?_⟩
  have hok := he.1 h0'
  refine ⟨fun hout w3 h3 => ⟨h3, _, _, _, _, rfl, .inl ⟨by omega, rfl, fun _ _ _ => by omega⟩⟩, fun ⟨hi0, hi1⟩ => ?_⟩
  obtain ⟨q, d, hp, hp8, g, hl⟩ := hL.at hi0 hi1
  have hm := getD_mem L default (i := i.toNat) (by omega)
  generalize hHd : L.getD i.toNat default = H at g hl hm
  refine ⟨hp, hi0, hi1, hp8, _, g 0 _ rfl, _, _, _, g 1 _ rfl, _, g 2 _ rfl, _, g 3 _ rfl, _, g 4 _ rfl, _, g 5 _ rfl, _, g 6 _ rfl, _, g 7 _ rfl, fun w13 h13 => ?_⟩
  obtain ⟨fi, cap, hfe, hfp⟩ := hf H hm (hok.2.1 H hm) q d w13 h13
  refine ⟨fi, cap, hfe, hfp.mono fun v w14 ⟨e14, s, e', hv', hR⟩ => ⟨e14, s.c, s.m, s.g, e', hv', fun b19 hb19 => ⟨fun hne w20 h20 => ⟨h20, _, _, _, _, rfl, .inl ⟨hne, rfl, fun _ _ _ => ⟨s, hR⟩⟩⟩, fun h0' w20 x20 => ?_⟩⟩⟩
  subst h0'
  have h20 := extB_ext x20
  have hb20 : b19 < w20.heap.size := x20.lt b19 (by simp)
  refine (own_k p c L hok.1 (fun h hh => (hok.2.1 h hh).2.1) w20 (hL.ext h20)).mono fun v w21 ⟨e21, p', c', M, hv, hM, o21, hA, hN⟩ => ⟨e21, p', _, c', hv, ?_⟩
  have hp' := o21.ne1 (by omega) (by omega)
  have hlen : M.length = L.length := by rw [← hM]; simp
  refine ⟨hp', hi0, hi1, fun hq => hp' (pIdx_none.1 hq), ?_⟩
  refine store_own o21 pAdd_map (by rw [recs_len encM_len]; simp; omega) (by simp) (by intro v hv; simp at hv; rcases hv with rfl | rfl | rfl <;> rfl) (fun b hb x hx => by simp at hb; subst hb; have := (o21.lt x hx).1; omega) fun w25 o25 g25 w26 h26 => ?_
  have hmd : (M.getD i.toNat default).h = H := by
    rw [← hHd, ← hM, List.getD_eq_getElem?_getD, List.getD_eq_getElem?_getD, List.getElem?_map, List.getElem?_eq_getElem (by omega : i.toNat < M.length)]; rfl
  rw [recs_part encM_len M i.toNat 5 _ ⟨usedH H s, (M.getD i.toNat default).q, (M.getD i.toNat default).d⟩ default (by omega) (by simp) (by
    show setAt (encH (M.getD i.toNat default).h (M.getD i.toNat default).q (M.getD i.toNat default).d) 5 _ = encH (usedH H s) _ _
    rw [hmd]; rfl)] at o25
  have hx25 : Ext w w25 := g25.ext (h20.trans e21) (o21.weak h20.size)
  refine ⟨hx25.trans h26, p', _, c', 0, rfl, .inr ⟨rfl, hok, hi0, hi1, rfl, o21.le.1, s, hR, ?_⟩⟩
  have := hsS_of o25 (fun m hm => ?_) (fun m hm => ?_)
  · have hmap : (M.set i.toNat ⟨usedH H s, (M.getD i.toNat default).q, (M.getD i.toNat default).d⟩).map (·.h) = L.set i.toNat (usedH H s) := by rw [List.map_set, hM]
    rw [hmap] at this
    exact (this.ext h26).weak h20.size
  · rcases List.mem_or_eq_of_mem_set hm with hm | rfl
    · exact lbs_grew (hA m hm).1 (hA m hm).2 g25
    · have hmm := getD_mem M default (i := i.toNat) (by omega)
      have := lbs_grew (hA _ hmm).1 (hA _ hmm).2 g25
      rw [hmd] at this
      exact this
  · rcases List.mem_or_eq_of_mem_set hm with hm | rfl
    · exact hN m hm
    · have hmm := getD_mem M default (i := i.toNat) (by omega)
      have := hN _ hmm
      unfold LbN at this ⊢
      rw [hmd] at this
      exact this


theorem nd_cells {w : World} {p : Option Addr} {a : Nd} (h : NdAt w p a) : Go.Sx.cell w p 0 = some (.int .i64 a.c) ∧ Go.Sx.cell w p 1 = some (.int .i64 a.m) ∧ Go.Sx.cell w p 2 = some (.int .i64 a.g) := ⟨h 0 _ rfl, h 1 _ rfl, h 2 _ rfl⟩

theorem Take_k (p : Option Addr) (c : Nat) (L : List Ht) (h63 : (L.length : Int) ≤ 9223372036854775807) (hO : ∀ h ∈ L, HtOk h) (i : Int) (a : Nd) (w : World) (hL : HsAt w p L) :
    FnP Try.prog F_host_Take #[.slice p L.length c, .int .i64 i, nv a] w fun v w' => Ext w w' ∧ ∃ p' n' c' e, v = .tuple #[.slice p' n' c', .int .i64 e] ∧
      ((e ≠ 0 ∧ n' = 0 ∧ (okHs L → 0 ≤ i → i < L.length → ¬ (okN a ∧ fitN a (subN (L.getD i.toNat default).has (L.getD i.toNat default).used)))) ∨
       (e = 0 ∧ okHs L ∧ 0 ≤ i ∧ i < L.length ∧ n' = L.length ∧ n' ≤ c' ∧ okN a ∧ fitN a (subN (L.getD i.toNat default).has (L.getD i.toNat default).used) ∧ HsS w.heap.size w' p' (L.set i.toNat (usedH (L.getD i.toNat default) (addN (L.getD i.toNat default).used a))))) := by
  refine ok_host_Take p L.length c i a.c a.m a.g w _ fun w0 h0 => ?_
  refine new_nd (x := a) fun p1 w1 e1 hN hp1 w2 h2 => ?_
  have x2 := (h0.trans e1).trans h2
  refine (change_k (fun h s e => (e ≠ 0 ∧ ¬ (okN a ∧ fitN a (subN h.has h.used))) ∨ (e = 0 ∧ s = addN h.used a ∧ okN a ∧ fitN a (subN h.has h.used))) p c L h63 hO i _ w2 (hL.ext x2) fun h hh hok q d w3 h3 => ?_).mono fun v w4 ⟨e4, p', n', c', e, hv, hr⟩ => ⟨e4, _, _, _, _, hv, fun w8 h8 => ⟨(x2.trans e4).trans h8, _, _, _, _, rfl, ?_⟩⟩
  · refine ⟨F_host_Take_1, #[.pointer p1], rfl, (ok_host_Take_1 h.name q h.labels.length d h.has.c h.has.m h.has.g h.used.c h.used.m h.used.g p1 w3 _ ?_ : FnP Try.prog F_host_Take_1 #[hv h q d, .pointer p1] w3 _)⟩
    intro b0 hb0 b1 hb1 w5 h5
    refine (nSub_k h.has h.used w5).mono fun v w6 ⟨e6, s, e, hv, hs⟩ => ⟨e6, _, _, _, _, hv, fun b8 hb8 => ?_⟩
    have hs : e = 0 ∧ s = subN h.has h.used := by
      rcases hs with ⟨_, _, _, h1, h2⟩ | ⟨hno, _⟩ | ⟨_, _, hno, _⟩
      · exact ⟨h1, h2⟩
      · exact absurd ⟨hok.2.2.2.1, hok.2.2.2.2.1⟩ hno
      · exact absurd hok.2.2.2.2.2 hno
    obtain ⟨rfl, rfl⟩ := hs
    have hN3 := nd_cells (Cells.ext hN (h2.trans h3))
    refine ⟨hp1, _, hN3.1, _, hN3.2.1, _, hN3.2.2, fun w12 h12 => ?_⟩
    refine (nSub_k (subN h.has h.used) a w12).mono fun v w13 ⟨e13, s, e, hv, hs⟩ => ⟨e13, _, _, _, _, hv, fun b18 hb18 => ?_⟩
    have hsub : okN (subN h.has h.used) := by
      obtain ⟨h1, h2, h3⟩ := hok.2.2.2.1
      obtain ⟨h4, h5, h6⟩ := hok.2.2.2.2.1
      obtain ⟨h7, h8, h9⟩ := hok.2.2.2.2.2
      refine ⟨?_, ?_, ?_⟩ <;> simp only [subN] <;> omega
    rcases hs with ⟨_, ha, hfit, rfl, rfl⟩ | ⟨hno, rfl, rfl⟩ | ⟨_, ha, hno, rfl, rfl⟩
    · refine ⟨fun hne => absurd rfl hne, fun _ => ⟨hp1, _, hN3.1, _, hN3.2.1, _, hN3.2.2, fun w22 h22 => ?_⟩⟩
      refine (nAdd_k h.used a w22).mono fun v w23 ⟨e23, s, e, hv, hs⟩ => ⟨e23, _, _, _, _, hv, fun w28 h28 => ⟨h28, s, e, rfl, .inr ?_⟩⟩
      rcases hs with ⟨_, _, _, h1, h2⟩ | ⟨hno, _⟩ | ⟨_, _, hno, _⟩
      · exact ⟨h1, h2, ha, hfit⟩
      · exact absurd ⟨hok.2.2.2.2.1, ha⟩ hno
      · refine absurd ?_ hno
        obtain ⟨h1, h2, h3⟩ := hok.2.2.2.1
        obtain ⟨h4, h5, h6⟩ := hok.2.2.2.2.1
        obtain ⟨h7, h8, h9⟩ := ha
        obtain ⟨h10, h11, h12⟩ := hfit
        simp only [subN] at h10 h11 h12
        refine ⟨?_, ?_, ?_⟩ <;> simp only [addN] <;> omega
    · exact ⟨fun _ w19 h19 => ⟨h19, zeroN, _, rfl, .inl ⟨by omega, fun hc => hno ⟨hsub, hc.1⟩⟩⟩, fun h => by omega⟩
    · exact ⟨fun _ w19 h19 => ⟨h19, zeroN, _, rfl, .inl ⟨by omega, fun hc => hno hc.2⟩⟩, fun h => by omega⟩
  · rcases hr with ⟨hne, hn, hno⟩ | ⟨he, hok, hi0, hi1, hn, hc, s, hR, hAt⟩
    · refine .inl ⟨hne, hn, fun hok hi0 hi1 => ?_⟩
      obtain ⟨s, hR⟩ := hno hok hi0 hi1
      rcases hR with ⟨_, h⟩ | ⟨h, _⟩
      · exact h
      · exact absurd h hne
    · rcases hR with ⟨h, _⟩ | ⟨_, rfl, ha, hfit⟩
      · exact absurd rfl h
      · exact .inr ⟨he, hok, hi0, hi1, hn, hc, ha, hfit, (hAt.ext h8).weak x2.size⟩

theorem Give_k (p : Option Addr) (c : Nat) (L : List Ht) (h63 : (L.length : Int) ≤ 9223372036854775807) (hO : ∀ h ∈ L, HtOk h) (i : Int) (a : Nd) (w : World) (hL : HsAt w p L) :
    FnP Try.prog F_host_Give #[.slice p L.length c, .int .i64 i, nv a] w fun v w' => Ext w w' ∧ ∃ p' n' c' e, v = .tuple #[.slice p' n' c', .int .i64 e] ∧
      ((e ≠ 0 ∧ n' = 0 ∧ (okHs L → 0 ≤ i → i < L.length → ¬ (okN a ∧ fitN a (L.getD i.toNat default).used))) ∨
       (e = 0 ∧ okHs L ∧ 0 ≤ i ∧ i < L.length ∧ n' = L.length ∧ n' ≤ c' ∧ HsS w.heap.size w' p' (L.set i.toNat (usedH (L.getD i.toNat default) (subN (L.getD i.toNat default).used a))))) := by
  refine ok_host_Give p L.length c i a.c a.m a.g w _ fun w0 h0 => ?_
  refine new_nd (x := a) fun p1 w1 e1 hN hp1 w2 h2 => ?_
  have x2 := (h0.trans e1).trans h2
  refine (change_k (fun h s e => (e ≠ 0 ∧ ¬ (okN a ∧ fitN a h.used)) ∨ (e = 0 ∧ s = subN h.used a)) p c L h63 hO i _ w2 (hL.ext x2) fun h hh hok q d w3 h3 => ?_).mono fun v w4 ⟨e4, p', n', c', e, hv, hr⟩ => ⟨e4, _, _, _, _, hv, fun w8 h8 => ⟨(x2.trans e4).trans h8, _, _, _, _, rfl, ?_⟩⟩
  · refine ⟨F_host_Give_1, #[.pointer p1], rfl, (ok_host_Give_1 h.name q h.labels.length d h.has.c h.has.m h.has.g h.used.c h.used.m h.used.g p1 w3 _ ?_ : FnP Try.prog F_host_Give_1 #[hv h q d, .pointer p1] w3 _)⟩
    intro b0 hb0 b1 hb1
    have hN3 := nd_cells (Cells.ext hN (h2.trans h3))
    refine ⟨hp1, _, hN3.1, _, hN3.2.1, _, hN3.2.2, fun w5 h5 => ?_⟩
    refine (nSub_k h.used a w5).mono fun v w6 ⟨e6, s, e, hv, hs⟩ => ⟨e6, _, _, _, _, hv, fun w11 h11 => ⟨h11, s, e, rfl, ?_⟩⟩
    rcases hs with ⟨_, ha, hfit, rfl, rfl⟩ | ⟨hno, rfl, rfl⟩ | ⟨_, ha, hno, rfl, rfl⟩
    · exact .inr ⟨rfl, rfl⟩
    · exact .inl ⟨by omega, fun hc => hno ⟨hok.2.2.2.2.1, hc.1⟩⟩
    · exact .inl ⟨by omega, fun hc => hno hc.2⟩
  · rcases hr with ⟨hne, hn, hno⟩ | ⟨he, hok, hi0, hi1, hn, hc, s, hR, hAt⟩
    · refine .inl ⟨hne, hn, fun hok hi0 hi1 => ?_⟩
      obtain ⟨s, hR⟩ := hno hok hi0 hi1
      rcases hR with ⟨_, h⟩ | ⟨h, _⟩
      · exact h
      · exact absurd h hne
    · rcases hR with ⟨h, _⟩ | ⟨_, rfl⟩
      · exact absurd rfl h
      · exact .inr ⟨he, hok, hi0, hi1, hn, hc, (hAt.ext h8).weak x2.size⟩
end Go.Proofs.Ytblafknmfblgfaa
