/- The library's heap over the queue's row: Push, Pop, Remove, Fix. -/
import Derived.Test.YtblafknmfblgfaaQuA
set_option linter.unusedVariables false
set_option linter.unusedSimpArgs false
namespace Go.Proofs.Ytblafknmfblgfaa
open Go.Sx Go.RowKit

section
variable {B qb : Nat} {x y : Value} {p : Option Addr} {c : Nat} {H : List Th} {w : World}

/-- A thing, behind an interface. -/
def tv (b : Nat) : Value := .iface T_ptr_queue_thing (.pointer (ptr b))

theorem at_app_lt {H : List Th} {t : Th} {k : Nat} (h : k < H.length) : at_ (H ++ [t]) k = at_ H k := by
  unfold at_; rw [List.getD_eq_getElem?_getD, List.getD_eq_getElem?_getD, List.getElem?_append_left h]
theorem at_app_eq {H : List Th} {t : Th} : at_ (H ++ [t]) H.length = t := by
  unfold at_; rw [List.getD_eq_getElem?_getD, List.getElem?_append_right (Nat.le_refl _)]; simp
theorem at_take {H : List Th} {m k : Nat} (h : k < m) : at_ (H.take m) k = at_ H k := by
  unfold at_; rw [List.getD_eq_getElem?_getD, List.getD_eq_getElem?_getD, List.getElem?_take, if_pos h]

/-- What a row's new foot may hold. -/
def Foot1 (qb : Nat) (p : Option Addr) (H : List Th) (n b : Nat) : Prop := Foot qb p H b ∨ n ≤ b

theorem push_k (q : QI B w qb x y p c H) (hn : H.length ≤ 999) (hB : B ≤ w.heap.size) {t : Th} {j : Nat} (ht : Own B w T_queue_thing 4 (ptr t.b) 1 1 (thc t j)) (hf : ¬ Foot qb p H t.b) :
    FnP Try.prog F_queue_row_Push #[.pointer (ptr qb), tv t.b] w fun v w' => v = .tuple #[] ∧ ∃ p' c', QI B w' qb x y p' c' (H ++ [t]) ∧ Fr (Foot qb p (t :: H)) w w' ∧ (∀ a, p' = some a → (∃ a', p = some a' ∧ a'.block = a.block) ∨ w.heap.size ≤ a.block) := by
  have hq : t.b ≠ qb := fun h => hf (.inl h)
  have hpa : ∀ a, p = some a → t.b ≠ a.block := fun a ha h => hf (.inr (.inl ⟨a, ha, h.symm⟩))
  have hth : ∀ k, k < H.length → (at_ H k).b ≠ t.b := fun k hk h => hf (.inr (.inr ⟨_, at_mem H hk, h⟩))
  refine ok_queue_row_Push (ptr qb) (tv t.b) w _ fun w0 h0 => run_assert (d := .pointer T_queue_thing) (by kernel_rfl) (by simp) ⟨Ext.refl _, _, rfl, ptr_ne _, _, _, _, (q.slot.ext h0).cellAt (i := 0) rfl, ptr_ne _, ptr_ne _, ?_⟩
  have q0 := q.ext h0
  refine store_one (ht.ext h0) (by simp [thc]) rfl (by simp) fun w6 o6 g6 => ?_
  have o6' : Own B w6 T_queue_thing 4 (ptr t.b) 1 1 (thc t H.length) := o6
  have s6 := q0.slot.st (apart_ptr (Ne.symm hq)) g6
  have a6 := q0.arr.st (fun u v hu qhv => by cases qhv; exact Ne.symm (hpa u hu)) g6
  have t6 : ∀ k, k < H.length → Own B w6 T_queue_thing 4 (ptr (at_ H k).b) 1 1 (thc (at_ H k) k) := fun k hk => (q0.th k hk).st (apart_ptr (hth k hk)) g6
  have f6 : Fr (Foot qb p (t :: H)) w w6 := (fr_ext h0).tr (fr_grew g6 fun a ha => by cases ha; exact .inr (.inr ⟨t, List.mem_cons_self .., rfl⟩))
  have hB6 : B ≤ w6.heap.size := Nat.le_trans hB f6.size
  refine ⟨ptr_ne _, _, _, _, s6.cellAt (i := 0) rfl, ?_⟩
  refine push elem_queue_row (by omega) a6 hB6 rfl (by intro u hu; simp [Value.cells] at hu; subst hu; rfl) (by omega) (by omega) (by omega) fun p' c' w16 o16 g16 hp' => ⟨ptr_ne _, ?_⟩
  have s16 := s6.st (fun u v hu qhv => by cases hu; exact Ne.symm (q.ap v qhv).1) g16
  have t16 : ∀ k, k < H.length → Own B w16 T_queue_thing 4 (ptr (at_ H k).b) 1 1 (thc (at_ H k) k) := fun k hk => (t6 k hk).st (apart_to fun v qhv => (q.ap v qhv).2 k hk) g16
  have o16t := o6'.st (apart_to fun v qhv => hpa v qhv) g16
  have np : ∀ a, p' = some a → (∃ a', p = some a' ∧ a'.block = a.block) ∨ w6.heap.size ≤ a.block := fun a ha => by
    rcases g16.new with h | h
    · subst ha
      cases p with
      | none => simp [blk] at h
      | some z => simp [blk] at h; exact .inl ⟨z, rfl, h.symm⟩
    · exact .inr (h a ha)
  have ap' : ∀ a, p' = some a → a.block ≠ qb ∧ a.block ≠ t.b ∧ ∀ k, k < H.length → (at_ H k).b ≠ a.block := fun a ha => by
    rcases np a ha with ⟨z, hz, he⟩ | h
    · rw [← he]
      exact ⟨(q.ap z hz).1, Ne.symm (hpa z hz), (q.ap z hz).2⟩
    · have l1 := (s6.lt _ rfl).2
      have l2 := (o6'.lt _ rfl).2
      exact ⟨fun e => by simp [ptr] at l1; omega, fun e => by simp [ptr] at l2; omega, fun k hk e => by have := ((t6 k hk).lt _ rfl).2; simp at this; omega⟩
  have st16 : Store w16 (ptr qb) [.slice p' (H.length + 1) c'] [] fun w20 => ∀ w21, Ext w20 w21 → (Value.tuple #[] = .tuple #[] ∧ ∃ p' c', QI B w21 qb x y p' c' (H ++ [t]) ∧ Fr (Foot qb p (t :: H)) w w21 ∧ (∀ a, p' = some a → (∃ a', p = some a' ∧ a'.block = a.block) ∨ w.heap.size ≤ a.block)) := by
    have := store_one (off := 0) s16 (by simp) (v := .slice p' (H.length + 1) c') rfl (ns := []) (by simp) (K := fun w20 => ∀ w21, Ext w20 w21 → (Value.tuple #[] = .tuple #[] ∧ ∃ p' c', QI B w21 qb x y p' c' (H ++ [t]) ∧ Fr (Foot qb p (t :: H)) w w21 ∧ (∀ a, p' = some a → (∃ a', p = some a' ∧ a'.block = a.block) ∨ w.heap.size ≤ a.block))) fun w20 o20 g20 w21 h21 => ?_
    · rw [pAdd_zero] at this; exact this
    have hl : (H ++ [t]).length = H.length + 1 := by simp
    refine ⟨rfl, p', c', QI.ext ⟨?_, ?_, fun k hk => ?_, fun i k hi hk he => ?_, fun i hi => ?_, fun a ha => ⟨(ap' a ha).1, fun i hi => ?_⟩⟩ h21, ?_, fun a ha => ?_⟩
    · rw [hl]; exact o20
    · rw [hl, List.map_append]
      have : Own B w16 T_ptr_queue_thing 1 p' (H.length + 1) c' (H.map pv ++ [t].map pv) := o16
      exact this.st (fun u v hu qhv => by cases qhv; exact (ap' u hu).1) g20
    · rw [hl] at hk
      by_cases h : k < H.length
      · rw [at_app_lt h]; exact (t16 k h).st (apart_ptr (q.aq k h)) g20
      · obtain rfl : k = H.length := by omega
        rw [at_app_eq]; exact o16t.st (apart_ptr hq) g20
    · rw [hl] at hi hk
      by_cases h1 : i < H.length <;> by_cases h2 : k < H.length
      · rw [at_app_lt h1, at_app_lt h2] at he; exact q.inj i k h1 h2 he
      · obtain rfl : k = H.length := by omega
        rw [at_app_lt h1, at_app_eq] at he; exact absurd he (hth i h1)
      · obtain rfl : i = H.length := by omega
        rw [at_app_lt h2, at_app_eq] at he; exact absurd he.symm (hth k h2)
      · omega
    · rw [hl] at hi
      by_cases h1 : i < H.length
      · rw [at_app_lt h1]; exact q.aq i h1
      · obtain rfl : i = H.length := by omega
        rw [at_app_eq]; exact hq
    · rw [hl] at hi
      by_cases h1 : i < H.length
      · rw [at_app_lt h1]; exact (ap' a ha).2.2 i h1
      · obtain rfl : i = H.length := by omega
        rw [at_app_eq]; exact Ne.symm (ap' a ha).2.1
    · refine ((f6.tr (fr_grew g16 fun a ha => .inr (.inl ⟨a, ha, rfl⟩))).tr (fr_grew g20 fun a ha => by cases ha; exact .inl rfl)).tr (fr_ext h21)
    · rcases np a ha with h | h
      · exact .inl h
      · exact .inr (Nat.le_trans f6.size h)
  exact st16

theorem pop_k (q : QI B w qb x y p c H) (hl : 0 < H.length) :
    FnP Try.prog F_queue_row_Pop #[.pointer (ptr qb)] w fun v w' => v = tv (at_ H (H.length - 1)).b ∧ QI B w' qb x y p c (H.take (H.length - 1)) ∧ Fr (fun b => b = qb) w w' ∧ Own B w' T_queue_thing 4 (ptr (at_ H (H.length - 1)).b) 1 1 (thc (at_ H (H.length - 1)) (H.length - 1)) := by
  have hp := q.ne hl
  have s0 := q.slot.cellAt (i := 0) rfl
  have hc := q.arr.le
  have e1 : ((H.length : Int) - 1).toNat = H.length - 1 := by omega
  have ca := arr_at q.arr (i := (H.length : Int) - 1) (by omega) (by omega)
  rw [e1] at ca
  refine ok_queue_row_Pop (ptr qb) w _ ⟨ptr_ne _, _, _, _, s0, i64 (by omega), ptr_ne _, _, _, _, s0, hp, by omega, by omega, _, ca, ptr_ne _, _, _, _, s0, by omega, by omega, by omega, ptr_ne _, ?_⟩
  rw [show (((H.length : Int) - 1) - 0).toNat = H.length - 1 by omega, show c - (0 : Int).toNat = c by simp, pCut_zero]
  have st := store_one (off := 0) q.slot (by simp) (v := .slice p (H.length - 1) c) rfl (ns := []) (by simp) (K := fun w10 => ∀ w11, Ext w10 w11 → Run Try.prog (.makeInterface T_ptr_queue_thing (.pointer (ptr (at_ H (H.length - 1)).b))) w11 fun v12 w12 => Ext w11 w12 ∧ ∃ t13 : Value, v12 = t13 ∧ ∀ w14, Ext w12 w14 →
    (t13 = tv (at_ H (H.length - 1)).b ∧ QI B w14 qb x y p c (H.take (H.length - 1)) ∧ Fr (fun b => b = qb) w w14 ∧ Own B w14 T_queue_thing 4 (ptr (at_ H (H.length - 1)).b) 1 1 (thc (at_ H (H.length - 1)) (H.length - 1)))) fun w10 o10 g10 w11 h11 => ?_
  · rw [pAdd_zero] at st; exact st
  refine run_iface (d := .pointer T_queue_thing) (by kernel_rfl) (by simp) ⟨Ext.refl _, _, rfl, fun w14 h14 => ⟨rfl, ?_, ((fr_grew g10 fun a ha => by cases ha; rfl).tr (fr_ext h11)).tr (fr_ext h14), ?_⟩⟩
  · refine QI.ext (QI.ext ?_ h11) h14
    have hm : (H.take (H.length - 1)).length = H.length - 1 := by simp
    have th : ∀ k, k < H.length → Own B w10 T_queue_thing 4 (ptr (at_ H k).b) 1 1 (thc (at_ H k) k) := fun k hk => (q.th k hk).st (apart_ptr (q.aq k hk)) g10
    refine ⟨?_, ?_, fun k hk => ?_, fun i k hi hk he => ?_, fun i hi => ?_, fun a ha => ⟨(q.ap a ha).1, fun i hi => ?_⟩⟩
    · rw [hm]; exact o10
    · have := (q.arr.st (fun u v hu qhv => by cases qhv; exact (q.ap u hu).1) g10).pre (m := H.length - 1) (by omega)
      rw [hm, List.map_take]; rw [Nat.mul_one] at this; exact this
    · rw [hm] at hk; rw [at_take hk]; exact th k (by omega)
    · rw [hm] at hi hk; rw [at_take hi, at_take hk] at he; exact q.inj i k (by omega) (by omega) he
    · rw [hm] at hi; rw [at_take hi]; exact q.aq i (by omega)
    · rw [hm] at hi; rw [at_take hi]; exact (q.ap a ha).2 i (by omega)
  · exact (((q.th (H.length - 1) (by omega)).st (apart_ptr (q.aq _ (by omega))) g10).ext h11).ext h14
theorem foot_grow {p' : Option Addr} {t : Th} {G : List Th} {n : Nat} (hg : ∀ u ∈ G, u = t ∨ u ∈ H) (hp : ∀ a, p' = some a → (∃ a', p = some a' ∧ a'.block = a.block) ∨ n ≤ a.block) (b : Nat) (h : Foot qb p' G b) : Foot qb p (t :: H) b ∨ n ≤ b := by
  rcases h with h | ⟨a, ha, rfl⟩ | ⟨u, hu, rfl⟩
  · exact .inl (.inl h)
  · rcases hp a ha with ⟨z, hz, he⟩ | h
    · exact .inl (.inr (.inl ⟨z, hz, he⟩))
    · exact .inr h
  · refine .inl (.inr (.inr ⟨u, ?_, rfl⟩))
    rcases hg u hu with rfl | h
    · exact List.mem_cons_self ..
    · exact List.mem_cons_of_mem _ h

theorem heap_push_k (q : QI B w qb x y p c H) (hh : Hp H H.length) (hn : H.length ≤ 999) (hB : B ≤ w.heap.size) {t : Th} {j : Nat} (ht : Own B w T_queue_thing 4 (ptr t.b) 1 1 (thc t j)) (hf : ¬ Foot qb p H t.b) :
    FnP Try.prog F_container_heap_Push #[qhv qb, tv t.b] w fun v w' => v = .tuple #[] ∧ ∃ p' c' Y, QI B w' qb x y p' c' Y ∧ Y.Perm (t :: H) ∧ Hp Y Y.length ∧ Fr (Foot qb p (t :: H)) w w' ∧ (∀ a, p' = some a → (∃ a', p = some a' ∧ a'.block = a.block) ∨ w.heap.size ≤ a.block) := by
  refine ok_container_heap_Push (qhv qb) (tv t.b) w _ fun w0 h0 => inv_push ((push_k (q.ext h0) hn (Nat.le_trans hB h0.size) (ht.ext h0) hf).mono fun v w1 ⟨qhv, p', c', q1, f1, np⟩ => ⟨qhv, fun w2 h2 => ?_⟩)
  have q2 := q1.ext h2
  have hl : (H ++ [t]).length = H.length + 1 := by simp
  refine inv_len q2 (len_k.mono fun v w3 ⟨e3, qhv⟩ => ⟨_, qhv, i64 (by omega), fun w5 h5 => ?_⟩)
  have q5 := (q2.ext e3).ext h5
  have hup : Up (H ++ [t]) (H.length + 1) H.length := up_start (hp_congr hh fun k hk => at_app_lt hk)
  rw [show (((H ++ [t]).length : Int) - 1) = (H.length : Int) by omega]
  refine (up_k q5 (j := (H.length : Int)) (n := H.length + 1) (by omega) (by omega) (by omega) (by omega) hup).mono fun v w6 ⟨qhv, Y, q6, hp, _, hhp, f6⟩ => ⟨qhv, fun w7 h7 => ⟨rfl, p', c', Y, q6.ext h7, hp.trans (List.perm_append_comm (l₁ := H) (l₂ := [t])), ?_, ?_, fun a ha => ?_⟩⟩
  · rw [hp.length_eq, hl]; exact hhp
  · have f5 : Fr (Foot qb p (t :: H)) w w5 := ((((fr_ext h0).tr f1).tr (fr_ext h2)).tr (fr_ext e3)).tr (fr_ext h5)
    refine (f5.trans f6 fun b hb => foot_grow (fun u hu => ?_) (fun a ha => ?_) b hb).tr (fr_ext h7)
    · rcases List.mem_append.1 hu with h | h
      · exact .inr h
      · exact .inl (by simpa using h)
    · rcases np a ha with h | h
      · exact .inl h
      · exact .inr (Nat.le_trans h0.size h)
  · rcases np a ha with h | h
    · exact .inl h
    · exact .inr (Nat.le_trans h0.size h)

theorem take_last {Y : List Th} (h : 0 < Y.length) : Y.take (Y.length - 1) ++ [at_ Y (Y.length - 1)] = Y := by
  have := List.take_append_drop (Y.length - 1) Y
  have hd : Y.drop (Y.length - 1) = [at_ Y (Y.length - 1)] := by
    rw [List.drop_eq_getElem_cons (by omega), List.drop_of_length_le (by omega)]
    unfold at_
    rw [List.getD_eq_getElem?_getD, List.getElem?_eq_getElem (by omega)]; rfl
  rw [← hd]; exact this
theorem perm_last {Y G : List Th} (h : 0 < Y.length) (hp : Y.Perm G) : (at_ Y (Y.length - 1) :: Y.take (Y.length - 1)).Perm G := by
  refine List.Perm.trans ?_ hp
  have := take_last h
  refine List.Perm.trans (List.perm_append_comm (l₁ := [_])) ?_
  rw [this]

theorem heap_pop_k (q : QI B w qb x y p c H) (hh : Hp H H.length) (h0 : 0 < H.length) (hn : H.length ≤ 1000) :
    FnP Try.prog F_container_heap_Pop #[qhv qb] w fun v w' => ∃ (t : Th) (j : Nat) (Y : List Th), v = tv t.b ∧ QI B w' qb x y p c Y ∧ (t :: Y).Perm H ∧ Hp Y Y.length ∧ (∀ u ∈ H, ¬ ahead u t) ∧ Own B w' T_queue_thing 4 (ptr t.b) 1 1 (thc t j) ∧ Fr (Foot qb p H) w w' := by
  refine ok_container_heap_Pop (qhv qb) w _ fun w0 h0' => inv_len (q.ext h0') (len_k.mono fun v w1 ⟨e1, qhv⟩ => ⟨_, qhv, i64 (by omega), fun w3 h3 => ?_⟩)
  have q3 := ((q.ext h0').ext e1).ext h3
  have f3 : Fr (Foot qb p H) w w3 := ((fr_ext h0').tr (fr_ext e1)).tr (fr_ext h3)
  refine inv_swap q3 ((swap_k q3 (by omega) (by omega) (by omega) (by omega)).mono fun v w4 ⟨qhv, q4, f4⟩ => ⟨qhv, fun w5 h5 => ?_⟩)
  have e0 : ((H.length : Int) - 1).toNat = H.length - 1 := by omega
  rw [e0] at q4
  have q5 := q4.ext h5
  have hl := swp_len H (0 : Int).toNat (H.length - 1)
  have sa := swp_at H (i := (0 : Int).toNat) (j := H.length - 1) (by simpa using h0) (by omega)
  refine (down_k q5 (by omega) (by omega) (by omega) (by omega) (by omega) ?_).mono fun v w6 ⟨r, Y, qhv, q6, hp, hout, ht, hf, f6⟩ => ⟨_, qhv, fun w8 h8 => ?_⟩
  · rw [e0]
    by_cases h1 : H.length - 1 = 0
    · rw [h1]; exact ⟨fun k _ hk => by omega, fun h => by simp at h⟩
    · refine dn_start (hp_less hh (by omega)) (fun k hk hk0 => ?_) (by simp; omega)
      rw [sa k, if_neg (by omega), if_neg hk0]
  · have hYl : Y.length = H.length := by rw [hp.length_eq, hl]
    have hY : Hp Y (H.length - 1) := by
      rw [e0] at ht hf
      cases r with
      | true => exact ht rfl
      | false => exact up_zero (hf rfl).2
    have q8 := q6.ext h8
    have hlast : at_ Y (Y.length - 1) = at_ H 0 := by
      rw [hYl, hout _ (by omega), sa, if_pos rfl]; rfl
    have hpH : Y.Perm H := hp.trans (swp_perm H (by simpa using h0) (by omega))
    refine inv_pop ((pop_k q8 (by omega)).mono fun v w9 ⟨qhv, q9, f9, o9⟩ => ⟨v, rfl, fun w11 h11 => ⟨at_ Y (Y.length - 1), Y.length - 1, Y.take (Y.length - 1), qhv, q9.ext h11, perm_last (by omega) hpH, ?_, fun u hu => ?_, o9.ext h11, ?_⟩⟩)
    · rw [List.length_take, Nat.min_eq_left (by omega), hYl]
      exact hp_congr hY fun k hk => at_take hk
    · rw [hlast]
      obtain ⟨k, hk, rfl⟩ := mem_at hu
      exact hp_first hh k hk
    · have fp : ∀ b, Foot qb p (swp H (0 : Int).toNat (H.length - 1)) b → Foot qb p H b := fun b => (foot_perm (swp_perm H (by simpa using h0) (by omega)) b).1
      exact (((((f3.tr f4).tr (fr_ext h5)).tr (f6.mono fp)).tr (fr_ext h8)).tr (f9.mono fun b hb => .inl hb)).tr (fr_ext h11)

end
end Go.Proofs.Ytblafknmfblgfaa
