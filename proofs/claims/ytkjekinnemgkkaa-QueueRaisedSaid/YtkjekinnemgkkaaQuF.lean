/- The queue: Drop and Raise. -/
import Derived.Test.YtkjekinnemgkkaaQuE
set_option linter.unusedVariables false
set_option linter.unusedSimpArgs false
namespace Go.Proofs.Ytkjekinnemgkkaa
open Go.Sx Go.RowKit

section
variable {B qb mb : Nat} {born : Int} {p : Option Addr} {c : Nat} {H : List Th} {m : List (Int × Value)} {w : World}

theorem foot_sub {Y : List Th} (hs : ∀ u ∈ Y, ∃ v ∈ H, v.b = u.b) {b : Nat} (h : FootQ mb qb p Y b) : FootQ mb qb p H b := by
  rcases h with h | h | h | ⟨u, hu, h⟩
  · exact .inl h
  · exact .inr (.inl h)
  · exact .inr (.inr (.inl h))
  · obtain ⟨v, hv, he⟩ := hs u hu
    exact .inr (.inr (.inr ⟨v, hv, he.trans h⟩))

theorem drop_k (q : QQ B w qb mb born p c H m) (hr : Rel H m) (hn : H.length ≤ 200) (id : Int) :
    FnP Try.prog F_queue_Queue_Drop #[.pointer (ptr qb), .int .i64 id] w fun v w' => ∃ e : Int, v = .int .i64 e ∧
      (e ≠ 0 → (∀ t ∈ H, t.id ≠ id) ∧ Ext w w') ∧
      (e = 0 → ∃ t Y, t ∈ H ∧ t.id = id ∧ (t :: Y).Perm H ∧ QQ B w' qb mb born p c Y (mdel m id) ∧ Fr (FootQ mb qb p H) w w') := by
  obtain ⟨t3, e3, hnone, hsome⟩ := rel_look hr id
  have ne := ptr_ne qb
  refine ok_queue_Queue_Drop (ptr qb) id w _ ⟨ne, ne, _, q.qi.slot.cellAt0 (i := 1) rfl, fun w1 h1 => run_look kq mapq elem_sl_ptr_queue_thing (a := id) (q.mp.ext h1) ⟨Ext.refl _, t3, e3, fun hs w4 h4 => ⟨5, rfl, fun _ => ⟨hnone.1 hs, h1.trans h4⟩, fun h => by cases h⟩, fun hs => ?_⟩⟩
  obtain ⟨t, ht, hid, rfl⟩ := hsome hs
  obtain ⟨k, hk, rfl⟩ := mem_at ht
  have q1 := q.ext h1
  refine ⟨ne, ne, hs, hs, _, (q1.qi.th k hk).cellAt0 (i := 3) rfl, fun w5 h5 => ?_⟩
  rw [pAdd_zero]
  refine run_iface (d := .pointer T_queue_row) (by kernel_rfl) (by simp) ⟨Ext.refl _, _, rfl, fun w8 h8 => ?_⟩
  have q8 := (q1.ext h5).ext h8
  refine (heap_remove_k q8.qi q.hp (by omega) (by omega) (by omega)).mono fun v w9 ⟨Y, qi9, hp, hh, f9⟩ => ⟨v, rfl, ne, ne, _, qi9.slot.cellAt0 (i := 1) rfl, fun w12 h12 => ?_⟩
  rw [Int.toNat_natCast] at hp
  have mfY : ¬ Foot qb p Y mb := by
    rintro (h | h | ⟨u, hu, h⟩)
    · exact q.mf (.inl h)
    · exact q.mf (.inr (.inl h))
    · exact q.mf (.inr (.inr ⟨u, hp.mem_iff.1 (List.mem_cons_of_mem _ hu), h⟩))
  refine run_delete (ts := [3]) kq mapq (a := id) ((q8.mp.fr f9 q.mf).ext h12) fun w13 m13 g13 => ⟨rfl, fun w14 h14 => ⟨0, rfl, fun h => absurd rfl h, fun _ => ⟨_, Y, ht, hid, hp, QQ.ext ⟨?_, m13, hh, q.mB, mfY⟩ h14, ?_⟩⟩⟩
  · exact (qi9.ext h12).fr (S := fun b => b = mb) (fr_grew g13 fun a ha => by cases ha; rfl) fun b hb h => mfY (h ▸ hb)
  · exact ((((((fr_ext h1).tr (fr_ext h5)).tr (fr_ext h8)).tr (f9.mono fun b hb => .inr hb)).tr (fr_ext h12)).tr (fr_grew g13 fun a ha => by cases ha; exact .inl rfl)).tr (fr_ext h14)

theorem QI.put {x y : Value} {w' : World} {k : Nat} {t' : Th} (q : QI B w qb x y p c H) (hk : k < H.length) (hb : t'.b = (at_ H k).b) (o : Own B w' T_queue_thing 4 (ptr t'.b) 1 1 (thc t' k)) (g : Grew w w' (ptr t'.b) (ptr t'.b)) : QI B w' qb x y p c (H.set k t') := by
  have hl : (H.set k t').length = H.length := by simp
  have sa := fun i => at_set H k i t' hk
  have bs : ∀ i, (at_ (H.set k t') i).b = (at_ H i).b := fun i => by
    rw [sa i]; split
    · rename_i h; rw [h]; exact hb
    · rfl
  refine ⟨?_, ?_, fun i hi => ?_, fun i j hi hj he => ?_, fun i hi => ?_, fun a ha => ⟨(q.ap a ha).1, fun i hi => ?_⟩⟩
  · rw [hl]; exact q.slot.st (apart_ptr (by rw [hb]; exact Ne.symm (q.aq k hk))) g
  · rw [hl]
    have : (H.set k t').map pv = H.map pv := by
      rw [List.map_set]
      have : pv t' = pv (at_ H k) := by unfold pv; rw [hb]
      rw [this]
      apply List.ext_getElem?
      intro i
      rw [List.getElem?_set]
      split
      · rename_i h; subst h; simp only [List.length_map, hk, if_true]; exact (map_at hk).symm
      · rfl
    rw [this]
    exact q.arr.st (fun u v hu hv => by cases hv; rw [hb]; exact Ne.symm ((q.ap u hu).2 k hk)) g
  · rw [hl] at hi
    rw [sa i]; split
    · rename_i h; rw [h]; exact o
    · rename_i h
      exact (q.th i hi).st (apart_ptr (by rw [hb]; exact fun he => h (q.inj i k hi hk he))) g
  · rw [hl] at hi hj; rw [bs, bs] at he; exact q.inj i j hi hj he
  · rw [hl] at hi; rw [bs]; exact q.aq i hi
  · rw [hl] at hi; rw [bs]; exact (q.ap a ha).2 i hi

theorem mem_set {k : Nat} {t' u : Th} (hk : k < H.length) (hu : u ∈ H.set k t') : u = t' ∨ u ∈ H := by
  rcases List.mem_or_eq_of_mem_set hu with h | h
  · exact .inr h
  · exact .inl h

theorem raise_k (q : QQ B w qb mb born p c H m) (hr : Rel H m) (hi : Ids H) (hn : H.length ≤ 200) (id prio : Int) :
    FnP Try.prog F_queue_Queue_Raise #[.pointer (ptr qb), .int .i64 id, .int .i64 prio] w fun v w' => ∃ e : Int, v = .int .i64 e ∧
      (e ≠ 0 → Ext w w') ∧
      (e = 0 → ∃ k Y, k < H.length ∧ (at_ H k).id = id ∧ (at_ H k).prio ≤ prio ∧ Y.Perm (H.set k { at_ H k with prio := prio }) ∧ QQ B w' qb mb born p c Y m ∧ Rel Y m ∧ Ids Y ∧ Fr (FootQ mb qb p H) w w' ∧ (∀ b, FootQ mb qb p Y b → FootQ mb qb p H b)) := by
  obtain ⟨t3, e3, hnone, hsome⟩ := rel_look hr id
  have ne := ptr_ne qb
  refine ok_queue_Queue_Raise (ptr qb) id prio w _ ⟨ne, ne, _, q.qi.slot.cellAt0 (i := 1) rfl, fun w1 h1 => run_look kq mapq elem_sl_ptr_queue_thing (a := id) (q.mp.ext h1) ⟨Ext.refl _, t3, e3, fun hs w4 h4 => ⟨5, rfl, fun _ => h1.trans h4, fun h => by cases h⟩, fun hs => ?_⟩⟩
  obtain ⟨t, ht, hid, rfl⟩ := hsome hs
  obtain ⟨k, hk, rfl⟩ := mem_at ht
  have q1 := q.ext h1
  have thk := q1.qi.th k hk
  simp only [pAdd_zero]
  refine ⟨hs, hs, hs, _, thk.cellAt (i := 0) rfl, fun hlt w5 h5 => ⟨1, rfl, fun _ => h1.trans h5, fun h => by cases h⟩, fun hge => ⟨hs, hs, hs, ?_⟩⟩
  have st := store_one (off := 0) thk (by simp [thc]) (v := .int .i64 prio) rfl (ns := []) (by simp) (K := fun w5 => Own B w5 T_queue_thing 4 (ptr (at_ H k).b) 1 1 ((thc (at_ H k) k).set 0 (.int .i64 prio)) ∧ Grew w1 w5 (ptr (at_ H k).b) (ptr (at_ H k).b)) fun w5 o g => ⟨o, g⟩
  rw [pAdd_zero] at st
  refine ⟨st.1, fun w5 hw5 => ?_⟩
  obtain ⟨o5, g5⟩ := st.2 w5 hw5
  let t' : Th := { at_ H k with prio := prio }
  have o5' : Own B w5 T_queue_thing 4 (ptr t'.b) 1 1 (thc t' k) := o5
  have qi5 := q1.qi.put (t' := t') hk rfl o5' g5
  have f5 : Fr (FootQ mb qb p H) w w5 := (fr_ext h1).tr (fr_grew g5 fun a ha => by cases ha; exact .inr (.inr (.inr ⟨_, at_mem H hk, rfl⟩)))
  have hl : (H.set k t').length = H.length := by simp
  have nfm : mb ≠ (at_ H k).b := fun h => q.mf (.inr (.inr ⟨_, at_mem H hk, h.symm⟩))
  have m5 := q1.mp.grew (p := ptr t'.b) (q := ptr t'.b) (fun x hx => by cases hx; exact Ne.symm nfm) g5
  have fs : ∀ b, Foot qb p (H.set k t') b → Foot qb p H b := by
    rintro b (h | h | ⟨u, hu, h⟩)
    · exact .inl h
    · exact .inr (.inl h)
    · rcases mem_set hk hu with rfl | hu
      · exact .inr (.inr ⟨_, at_mem H hk, h⟩)
      · exact .inr (.inr ⟨u, hu, h⟩)
  refine ⟨ne, ne, hs, hs, _, o5'.cellAt0 (i := 3) rfl, fun w7 h7 => run_iface (d := .pointer T_queue_row) (by kernel_rfl) (by simp) ⟨Ext.refl _, _, rfl, fun w10 h10 => ?_⟩⟩
  have qi10 := (qi5.ext h7).ext h10
  refine (heap_fix_k qi10 (i := (k : Int)) (by omega) (by omega) (by omega) ?_).mono fun v w11 ⟨hv, Y, qi11, hp, hh, f11⟩ => ⟨hv, fun w12 h12 => ⟨0, rfl, fun h => absurd rfl h, fun _ => ⟨k, Y, hk, hid, hge, hp, QQ.ext ⟨qi11, ?_, hh, q.mB, ?_⟩ h12, ⟨fun u hu => ?_, fun i v hv => ?_⟩, ?_, ?_, ?_⟩⟩⟩
  · rw [Int.toNat_natCast, hl]
    exact dn_start q.hp (fun j hj hne => by rw [at_set H k j t' hk, if_neg hne]) hk
  · exact ((m5.ext h7).ext h10).fr f11 fun h => q.mf (fs _ h)
  · exact fun h => q.mf (fs _ ((foot_perm hp _).1 h))
  · rcases mem_set hk (hp.mem_iff.1 hu) with rfl | hu
    · exact (show mget m (at_ H k).id = some (pv (at_ H k)) from hr.1 _ (at_mem H hk))
    · exact hr.1 u hu
  · obtain ⟨u, hu, h1, h2⟩ := hr.2 i v hv
    obtain ⟨j, hj, rfl⟩ := mem_at hu
    have hm : at_ (H.set k t') j ∈ Y := hp.mem_iff.2 (at_mem _ (by omega))
    refine ⟨_, hm, ?_, ?_⟩
    · rw [at_set H k j t' hk]; split
      · rename_i h; rw [← h1, h]
      · exact h1
    · rw [at_set H k j t' hk]; split
      · rename_i h; rw [h2, h]; rfl
      · exact h2
  · unfold Ids
    refine (hp.map _).nodup_iff.2 ?_
    rw [List.map_set]
    have : (H.map (·.id)).set k t'.id = H.map (·.id) := by
      apply List.ext_getElem?
      intro i
      rw [List.getElem?_set]
      split
      · rename_i h; subst h
        simp only [List.length_map, hk, if_true, List.getElem?_map, List.getElem?_eq_getElem hk, Option.map_some]
        show some (at_ H k).id = _
        unfold at_; rw [List.getD_eq_getElem?_getD, List.getElem?_eq_getElem hk]; rfl
      · rfl
    rw [this]; exact hi
  · exact (((f5.tr (fr_ext h7)).tr (fr_ext h10)).tr (f11.mono fun b hb => .inr (fs b hb))).tr (fr_ext h12)
  · rintro b (h | h)
    · exact .inl h
    · exact .inr (fs b ((foot_perm hp b).1 h))
end
end Go.Proofs.Ytkjekinnemgkkaa
