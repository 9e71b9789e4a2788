/- The queue: its list, and what is sorted. -/
import Derived.Test.YtkjekinnemgkkaaQuC
set_option linter.unusedVariables false
set_option linter.unusedSimpArgs false
namespace Go.Proofs.Ytkjekinnemgkkaa
open Go.Sx Go.RowKit

/-- A thing without its block. -/
def nb (t : Th) : Th := { t with b := 0 }
def it (t : Th) : List Value := [.int .i64 t.prio, .int .i64 t.id]
def Falls (L : List Th) : Prop := L.Pairwise fun t u => ¬ ahead u t
theorem ahead_nb {t u : Th} : ahead (nb t) (nb u) ↔ ahead t u := Iff.rfl
theorem store_at0 {P : Program} {B : Nat} {w : World} {e : TypeId} {s : Nat} {q : Option Addr} {n c : Nat} {xs vs : List Value} {ns : List Nat} {K : World → Prop}
    (ho : Own B w e s q n c xs) (hlen : vs.length = xs.length) (hpos : vs ≠ []) (h1 : ∀ v ∈ vs, v.oneCell' = true) (hns : ∀ b ∈ ns, ∀ x, q = some x → x.block ≠ b)
    (hk : ∀ w', Own B w' e s q n c vs → Grew w w' q q → K w') : Store w q vs ns K :=
  store_own (off := 0) ho (map_add0 q) (by omega) hpos h1 hns fun w' o g => hk w' (by
    have := setAt_over vs xs [] (by omega)
    simp only [List.append_nil] at this
    rw [this] at o; exact o) g

section
variable {B qb mb : Nat} {born : Int} {p : Option Addr} {c : Nat} {H : List Th} {m : List (Int × Value)} {w : World}

theorem take_succ_map {k : Nat} (hk : k < H.length) : (H.take (k + 1)).map nb = (H.take k).map nb ++ [nb (at_ H k)] := by
  have : at_ H k = H[k] := by unfold at_; rw [List.getD_eq_getElem?_getD, List.getElem?_eq_getElem hk]; rfl
  rw [List.take_succ_eq_append_getElem hk, List.map_append, this]; rfl

theorem list_k (q : QQ B w qb mb born p c H m) (hn : H.length ≤ 200) :
    FnP Try.prog F_queue_Queue_List #[.pointer (ptr qb)] w fun v w' => Ext w w' ∧ ∃ (out : Option Addr) (d : Nat) (L : List Th), v = .slice out L.length d ∧ Own w.heap.size w' T_Item 2 out L.length d (L.flatMap it) ∧ L.Perm (H.map nb) ∧ Falls L := by
  have ne := ptr_ne qb
  refine ok_queue_Queue_List (ptr qb) w _ fun w0 h0 => run_makeMap (enc := enc64) fun w1 m1 e1 => ⟨e1, _, rfl, rfl, fun w3 h3 => new_own (by simp [Value.oneCell']) fun w4 o4 e4 => ?_⟩
  have x4 : Ext w w4 := ((h0.trans e1).trans h3).trans e4
  have s0 : w.heap.size ≤ w3.heap.size := ((h0.trans e1).trans h3).size
  have nc : (some (⟨w3.heap.size, 0, none⟩ : Addr)) ≠ none := by simp
  have q4 : QQ w.heap.size w4 w3.heap.size w0.heap.size 0 none 0 [] [] := by
    have hm := m1.lt
    refine ⟨⟨o4 _ s0, Own.nil, fun k hk => by simp at hk, fun i k hi => by simp at hi, fun i hi => by simp at hi, fun a ha => by cases ha⟩, (m1.ext h3).ext e4, fun k k1 kn => by simp at kn, h0.size, ?_⟩
    rintro (h | ⟨a, ha, _⟩ | ⟨t, ht, _⟩)
    · have := h3.size; omega
    · cases ha
    · cases ht
  refine ⟨ne, ne, _, _, _, (q.ext x4).qi.slot.cellAt0 (i := 0) rfl, fun k w' => 0 ≤ k ∧ k ≤ H.length ∧ Ext w w' ∧ ∃ p' c' C m', QQ w.heap.size w' w3.heap.size w0.heap.size 0 p' c' C m' ∧ (C.map nb).Perm ((H.take k.toNat).map nb), fun k _ => (H.length - k).toNat, ⟨by omega, by omega, x4, none, 0, [], [], q4, by simp⟩, ?_⟩
  rintro k w10 ⟨hk0, hk1, x10, p', c', C, m', qc, hpc⟩
  refine ⟨fun hlt => ?_, fun hge => ?_⟩
  · have hkn : k.toNat < H.length := by omega
    have q10 := q.ext x10
    have th := q10.qi.th k.toNat hkn
    have net := ptr_ne (at_ H k.toNat).b
    have hCl : C.length = k.toNat := by have := hpc.length_eq; simpa [Nat.min_eq_left (Nat.le_of_lt hkn)] using this
    refine ⟨q10.qi.ne (by omega), hk0, hlt, _, arr_at q10.qi.arr hk0 hkn, net, net, _, th.cellAt (i := 0) rfl, _, th.cellAt (i := 1) rfl, _, th.cellAt (i := 2) rfl, _, th.cellAt (i := 3) rfl, fun w16 h16 => ?_⟩
    have x16 := x10.trans h16
    refine new_own (by simp [Value.oneCell']) fun w17 o17 e17 => store_at0 (P := Try.prog) (o17 w.heap.size x16.size) rfl (by simp) (by simp [Value.oneCell']) (by simp) fun w18 o18 g18 => ?_
    have f18 : Fr (fun b => b = w16.heap.size) w17 w18 := fr_grew g18 fun a ha => by cases ha; rfl
    have x18 : Ext w w18 := Fr.ext (f18) (x16.trans e17) fun b hb => by rw [hb]; exact x16.size
    have nf16 : ¬ FootQ w0.heap.size w3.heap.size p' C w16.heap.size := fun h => by have := ((qc.ext h16).foot h).2; omega
    have qc18 := ((qc.ext h16).ext e17).fr f18 fun b hb h => nf16 (h ▸ hb)
    have th18 := (q.ext x18).qi.th k.toNat hkn
    refine ⟨nc, nc, _, qc18.qi.slot.cellAt0 (i := 1) rfl, net, net, by rw [pAdd_zero]; exact net, _, (by rw [pAdd_zero]; exact th18.cellAt0 (i := 1) rfl), fun w21 h21 => ?_⟩
    refine run_mapUpdate kq mapq (a := (at_ H k.toNat).id) (qc18.mp.ext h21) fun w22 m22 g22 => ⟨nc, nc, fun w23 h23 => ?_⟩
    have f22 : Fr (fun b => b = w0.heap.size) w21 w22 := fr_grew g22 fun a ha => by cases ha; rfl
    have qi22 := (qc18.qi.ext h21).fr f22 fun b hb h => qc.mf (h ▸ hb)
    have o22 := (o18.ext h21).fr f22 fun a ha h => by cases ha; exact nf16 (.inl h)
    rw [pAdd_zero]
    refine run_iface (d := .pointer T_queue_row) (by kernel_rfl) (by simp) ⟨Ext.refl _, _, rfl, fun w26 h26 => run_iface (d := .pointer T_queue_thing) (by kernel_rfl) (by simp) ⟨Ext.refl _, _, rfl, fun w29 h29 => ?_⟩⟩
    have qi29 := ((qi22.ext h23).ext h26).ext h29
    have o29 := ((o22.ext h23).ext h26).ext h29
    have m29 := ((m22.ext h23).ext h26).ext h29
    have x29 : Ext w w29 := (((Fr.ext f22 (x18.trans h21) fun b hb => by rw [hb]; exact h0.size).trans h23).trans h26).trans h29
    refine (heap_push_k (t := ⟨w16.heap.size, (at_ H k.toNat).prio, (at_ H k.toNat).id, (at_ H k.toNat).born⟩) (j := k.toNat) qi29 qc.hp (by omega) x29.size o29 fun h => nf16 (.inr h)).mono fun v w30 ⟨hv, p2, c2, Y, qi30, hp, hh, f30, np⟩ => ⟨hv, i64 (by omega), ⟨by omega, by omega, ?_, p2, c2, Y, _, ⟨qi30, m29.fr f30 ?_, hh, h0.size, ?_⟩, ?_⟩, by simp only []; omega⟩
    · refine Fr.ext f30 x29 ?_
      rintro b (h | ⟨a, ha, h⟩ | ⟨t, ht, h⟩)
      · omega
      · have := (qc.qi.foot (.inr (.inl ⟨a, ha, h⟩))).1; exact this
      · rcases List.mem_cons.1 ht with rfl | ht
        · simp only at h; rw [← h]; exact x16.size
        · exact (qc.qi.foot (.inr (.inr ⟨t, ht, h⟩))).1
    · rintro (h | h | ⟨t, ht, h⟩)
      · exact qc.mf (.inl h)
      · exact qc.mf (.inr (.inl h))
      · rcases List.mem_cons.1 ht with rfl | ht
        · exact nf16 (.inl h)
        · exact qc.mf (.inr (.inr ⟨t, ht, h⟩))
    · intro h
      rcases foot_grow (fun u hu => List.mem_cons.1 (hp.mem_iff.1 hu)) np _ h with h | h
      · rcases h with h | h | ⟨t, ht, h⟩
        · exact qc.mf (.inl h)
        · exact qc.mf (.inr (.inl h))
        · rcases List.mem_cons.1 ht with rfl | ht
          · exact nf16 (.inl h)
          · exact qc.mf (.inr (.inr ⟨t, ht, h⟩))
      · have := m29.lt; omega
    · rw [show (k + 1).toNat = k.toNat + 1 by omega, take_succ_map hkn]
      refine (hp.map nb).trans ?_
      rw [List.map_cons]
      refine List.Perm.trans ?_ (List.perm_append_comm (l₁ := [nb (at_ H k.toNat)]))
      exact List.Perm.cons _ hpc
  · have hkl : k.toNat = H.length := by omega
    rw [hkl, List.take_length] at hpc
    refine ⟨fun out n d w' => ∃ p' c' C m' L, QQ w.heap.size w' w3.heap.size w0.heap.size 0 p' c' C m' ∧ Own w.heap.size w' T_Item 2 out n d (L.flatMap it) ∧ n = L.length ∧ (L ++ C.map nb).Perm (H.map nb) ∧ Falls L ∧ (∀ l ∈ L, ∀ u ∈ C, ¬ ahead u l) ∧ Ext w w' ∧ (∀ a, out = some a → ¬ FootQ w0.heap.size w3.heap.size p' C a.block), fun _ n _ _ => H.length - n, ⟨p', c', C, m', [], qc, Own.nil, rfl, by simpa using hpc, List.Pairwise.nil, by simp, x10, fun a ha => by cases ha⟩, ?_⟩
    clear hpc qc
    rintro out n d w13 ⟨p', c', C, m', L, qc, oL, rfl, hpc, hfall, hcut, x13, hout⟩ w14 h14
    have hlen : L.length + C.length = H.length := by have := hpc.length_eq; simpa using this
    refine (take_k (qc.ext h14) (by omega)).mono fun v w15 h => ?_
    rcases h with ⟨rfl, rfl, h15⟩ | ⟨t, Y, rfl, q15, hp, hmin, f15⟩
    · refine ⟨_, _, _, rfl, fun b19 hb19 => ⟨fun _ w20 h20 => ⟨((x13.trans h14).trans h15).trans h20, out, d, L, rfl, ((oL.ext h14).ext h15).ext h20, by simpa using hpc, hfall⟩, fun h => by cases h⟩⟩
    · have ht : t ∈ C := hp.mem_iff.1 (List.mem_cons_self ..)
      have hCl : C.length = Y.length + 1 := by rw [← hp.length_eq]; rfl
      have x15 : Ext w w15 := Fr.ext f15 (x13.trans h14) fun b hb => (qc.foot hb).1
      have o15 := (oL.ext h14).fr f15 fun a ha => hout a ha
      have hY : ∀ k, FootQ w0.heap.size w3.heap.size p' Y k → FootQ w0.heap.size w3.heap.size p' C k := fun k hk => by
        rcases hk with h | h | h | ⟨u, hu, h⟩
        · exact .inl h
        · exact .inr (.inl h)
        · exact .inr (.inr (.inl h))
        · exact .inr (.inr (.inr ⟨u, hp.mem_iff.1 (List.mem_cons_of_mem _ hu), h⟩))
      refine ⟨_, _, _, rfl, fun b19 hb19 => ⟨(fun h => by cases h), fun _ => ?_⟩⟩
      refine push_B (P := Try.prog) elem_sl_Item (by omega) o15 x15.size (ns := [b19]) (fun b hb x hx => by
        obtain rfl : b = b19 := by simpa using hb
        have := (o15.lt x hx).2; omega) rfl (by intro u hu; simp [Value.cells] at hu; rcases hu with rfl | rfl <;> rfl) (by omega) (by omega) (by omega) fun p2 c2 w26 o26 g26 hp2 hns => ⟨⟨p', c', Y, mdel m' t.id, L ++ [nb t], ?_, ?_, by simp, ?_, ?_, ?_, ?_, fun a ha => ?_⟩, by simp only []; omega⟩
      · refine q15.fr (S := fun b => ∃ a, out = some a ∧ a.block = b) (fr_grew g26 fun a ha => ⟨a, ha, rfl⟩) ?_
        rintro b hb ⟨a, ha, rfl⟩
        exact hout a ha (hY _ hb)
      · rw [List.flatMap_append]; exact o26
      · refine List.Perm.trans ?_ hpc
        rw [List.append_assoc]
        refine List.Perm.append_left L ?_
        exact (hp.map nb)
      · refine List.pairwise_append.2 ⟨hfall, by simp, fun l hl u hu => ?_⟩
        obtain rfl : u = nb t := by simpa using hu
        exact hcut l hl t ht
      · intro l hl u hu
        rcases List.mem_append.1 hl with h | h
        · exact hcut l h u (hp.mem_iff.1 (List.mem_cons_of_mem _ hu))
        · obtain rfl : l = nb t := by simpa using h
          exact hmin u (hp.mem_iff.1 (List.mem_cons_of_mem _ hu))
      · exact Grew.ext g26 x15 o15
      · intro h
        have hl := q15.foot h
        rcases g26.new with hn | hn
        · subst ha
          cases out with
          | none => simp [blk] at hn
          | some z => simp [blk] at hn; exact hout z rfl (hY _ (hn ▸ h))
        · have := hn a ha; omega
end
end Go.Proofs.Ytkjekinnemgkkaa
