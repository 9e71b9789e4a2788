/- The queue: what New, Put, Take, Drop and Raise do. -/
import Derived.Test.YtblafknmfblgfaaQuB
set_option linter.unusedVariables false
set_option linter.unusedSimpArgs false
namespace Go.Proofs.Ytblafknmfblgfaa
open Go.Sx Go.RowKit

def enc64 : Int → Value := Value.int .i64
theorem kq : KeyT Try.prog T_int enc64 (.int .i64) := keyT_int (by kernel_rfl)
theorem mapq : Try.prog.underlying T_map_int_ptr_queue_thing = some (.map T_int T_ptr_queue_thing) := by kernel_rfl

/-- The map tells of each thing by its id. -/
def Rel (H : List Th) (m : List (Int × Value)) : Prop := (∀ t ∈ H, mget m t.id = some (pv t)) ∧ ∀ id v, mget m id = some v → ∃ t ∈ H, t.id = id ∧ v = pv t

structure QQ (B : Nat) (w : World) (qb mb : Nat) (born : Int) (p : Option Addr) (c : Nat) (H : List Th) (m : List (Int × Value)) : Prop where
  qi : QI B w qb (.map (some mb)) (.int .i64 born) p c H
  mp : MapIs enc64 w mb m
  hp : Hp H H.length
  mB : B ≤ mb
  mf : ¬ Foot qb p H mb
def FootQ (mb qb : Nat) (p : Option Addr) (H : List Th) (b : Nat) : Prop := b = mb ∨ Foot qb p H b

section
variable {B qb mb : Nat} {born : Int} {p : Option Addr} {c : Nat} {H : List Th} {m : List (Int × Value)} {w : World}

theorem QQ.ext {w' : World} (q : QQ B w qb mb born p c H m) (h : Ext w w') : QQ B w' qb mb born p c H m := ⟨q.qi.ext h, q.mp.ext h, q.hp, q.mB, q.mf⟩
theorem QQ.fr {S : Nat → Prop} {w' : World} (q : QQ B w qb mb born p c H m) (h : Fr S w w') (hs : ∀ b, FootQ mb qb p H b → ¬ S b) : QQ B w' qb mb born p c H m := ⟨q.qi.fr h fun b hb => hs b (.inr hb), q.mp.fr h (hs _ (.inl rfl)), q.hp, q.mB, q.mf⟩
theorem QQ.foot (q : QQ B w qb mb born p c H m) {b : Nat} (h : FootQ mb qb p H b) : B ≤ b ∧ b < w.heap.size := by
  rcases h with rfl | h
  · exact ⟨q.mB, q.mp.lt⟩
  · exact q.qi.foot h
theorem QI.reslot {x y y' : Value} {w' : World} (q : QI B w qb x y p c H) (o : Own B w' T_queue_Queue 3 (ptr qb) 1 1 [.slice p H.length c, x, y']) (g : Grew w w' (ptr qb) (ptr qb)) : QI B w' qb x y' p c H :=
  ⟨o, q.arr.st (fun u v hu qhv => by cases qhv; exact (q.ap u hu).1) g, fun k hk => (q.th k hk).st (apart_ptr (q.aq k hk)) g, q.inj, q.aq, q.ap⟩

theorem new_k : FnP Try.prog F_queue_New #[] w fun v w' => Ext w w' ∧ ∃ qb mb, v = .pointer (ptr qb) ∧ w.heap.size ≤ qb ∧ ∀ B, B ≤ w.heap.size → QQ B w' qb mb 0 none 0 [] [] := by
  refine ok_queue_New w _ fun w0 h0 => run_makeMap (enc := enc64) fun w1 m1 e1 => ⟨e1, _, rfl, rfl, fun w3 h3 => new_own (by simp [Value.oneCell']) fun w4 o4 e4 w5 h5 => ⟨(((h0.trans e1).trans h3).trans e4).trans h5, w3.heap.size, w0.heap.size, rfl, ?_, fun B hB => ?_⟩⟩
  · exact Nat.le_trans (Nat.le_trans h0.size e1.size) h3.size
  · have hm := m1.lt
    refine QQ.ext ⟨⟨o4 B (Nat.le_trans (Nat.le_trans (Nat.le_trans hB h0.size) e1.size) h3.size), Own.nil, fun k hk => by simp at hk, fun i k hi => by simp at hi, fun i hi => by simp at hi, fun a ha => by cases ha⟩, (m1.ext h3).ext e4, fun k k1 kn => by simp at kn, Nat.le_trans hB h0.size, ?_⟩ h5
    rintro (h | ⟨a, ha, _⟩ | ⟨t, ht, _⟩)
    · have := h3.size; omega
    · cases ha
    · cases ht

theorem rel_look (hr : Rel H m) (id : Int) : ∃ t3 : Option Addr, (mget m id).getD (.pointer none) = .pointer t3 ∧ (t3 = none ↔ ∀ t ∈ H, t.id ≠ id) ∧ (t3 ≠ none → ∃ t ∈ H, t.id = id ∧ t3 = ptr t.b) := by
  cases hm : mget m id with
  | none =>
    refine ⟨none, rfl, ⟨fun _ t ht he => ?_, fun _ => rfl⟩, fun h => absurd rfl h⟩
    have := hr.1 t ht; rw [he, hm] at this; cases this
  | some v =>
    obtain ⟨t, ht, he, rfl⟩ := hr.2 id v hm
    exact ⟨ptr t.b, rfl, ⟨fun h => absurd h (ptr_ne _), fun h => absurd he (h t ht)⟩, fun _ => ⟨t, ht, he, rfl⟩⟩

theorem rel_put {t : Th} {Y : List Th} (hr : Rel H m) (hn : ∀ u ∈ H, u.id ≠ t.id) (hp : Y.Perm (t :: H)) : Rel Y (mset m t.id (pv t)) := by
  refine ⟨fun u hu => ?_, fun id v qhv => ?_⟩
  · rw [mget_mset]
    rcases List.mem_cons.1 (hp.mem_iff.1 hu) with rfl | h
    · rw [if_pos rfl]
    · rw [if_neg (Ne.symm (hn u h))]; exact hr.1 u h
  · rw [mget_mset] at qhv
    split at qhv
    · rename_i h
      exact ⟨t, hp.mem_iff.2 (List.mem_cons_self ..), h, (Option.some.inj qhv).symm⟩
    · obtain ⟨u, hu, h1, h2⟩ := hr.2 id v qhv
      exact ⟨u, hp.mem_iff.2 (List.mem_cons_of_mem _ hu), h1, h2⟩

/-- The ids stand once. -/
def Ids (H : List Th) : Prop := (H.map (·.id)).Nodup
theorem rel_del {t : Th} {Y : List Th} (hr : Rel H m) (hn : (mkeys m).Nodup) (hi : Ids H) (hp : (t :: Y).Perm H) : Rel Y (mdel m t.id) ∧ Ids Y := by
  have h1 : ((t :: Y).map (·.id)).Nodup := (hp.map _).nodup_iff.2 hi
  simp only [List.map_cons, List.nodup_cons] at h1
  have hne : ∀ u ∈ Y, u.id ≠ t.id := fun u hu he => h1.1 (by rw [← he]; exact List.mem_map_of_mem hu)
  refine ⟨⟨fun u hu => ?_, fun id v qhv => ?_⟩, h1.2⟩
  · rw [mget_mdel m hn, if_neg (Ne.symm (hne u hu))]
    exact hr.1 u (hp.mem_iff.1 (List.mem_cons_of_mem _ hu))
  · rw [mget_mdel m hn] at qhv
    split at qhv
    · cases qhv
    · rename_i h
      obtain ⟨u, hu, h2, h3⟩ := hr.2 id v qhv
      rcases List.mem_cons.1 (hp.mem_iff.2 hu) with rfl | hy
      · exact absurd h2 h
      · exact ⟨u, hy, h2, h3⟩

theorem put_k (q : QQ B w qb mb born p c H m) (hr : Rel H m) (hn : H.length ≤ 200) (hb : -1 ≤ born ∧ born ≤ 1000000000) (hB : B ≤ w.heap.size) (prio id : Int) :
    FnP Try.prog F_queue_Queue_Put #[.pointer (ptr qb), .int .i64 prio, .int .i64 id] w fun v w' => ∃ e : Int, v = .int .i64 e ∧
      (e ≠ 0 → Ext w w' ∧ ((∃ t ∈ H, t.id = id) ∧ e = 6 ∨ H.length = 200 ∧ e = 7)) ∧
      (e = 0 → (∀ t ∈ H, t.id ≠ id) ∧ H.length ≠ 200 ∧ ∃ b p' c' Y, QQ B w' qb mb (born + 1) p' c' Y (mset m id (pv ⟨b, prio, id, born + 1⟩)) ∧ Y.Perm (⟨b, prio, id, born + 1⟩ :: H) ∧ Fr (FootQ mb qb p H) w w' ∧
        (∀ k, FootQ mb qb p' Y k → FootQ mb qb p H k ∨ w.heap.size ≤ k)) := by
  obtain ⟨t3, e3, hnone, hsome⟩ := rel_look hr id
  have ne := ptr_ne qb
  refine ok_queue_Queue_Put (ptr qb) prio id w _ ⟨ne, ne, _, q.qi.slot.cellAt0 (i := 1) rfl, fun w1 h1 => run_look kq mapq elem_sl_ptr_queue_thing (a := id) (q.mp.ext h1) ⟨Ext.refl _, t3, e3, fun hs w4 h4 => ⟨_, rfl, fun _ => ⟨h1.trans h4, .inl ⟨?_, rfl⟩⟩, fun h => by cases h⟩, fun hs => ⟨ne, ne, _, _, _, (q.ext h1).qi.slot.cellAt0 (i := 0) rfl, fun h200 w7 h7 => ⟨_, rfl, fun _ => ⟨h1.trans h7, .inr ⟨by omega, rfl⟩⟩, fun h => by cases h⟩, fun h200 => ?_⟩⟩⟩
  · obtain ⟨t, ht, he, _⟩ := hsome hs; exact ⟨t, ht, he⟩
  have q1 := q.ext h1
  refine ⟨ne, ne, _, q1.qi.slot.cellAt0 (i := 2) rfl, i64 (by omega), ne, ne, ?_⟩
  refine store_one q1.qi.slot (by simp) rfl (by simp) fun w8 o8 g8 => ⟨ne, ne, _, o8.cellAt0 (i := 2) rfl, fun w10 h10 => ?_⟩
  have qi8 := q1.qi.reslot (y' := .int .i64 (born + 1)) o8 g8
  have m8 := q1.mp.grew (p := ptr qb) (q := ptr qb) (fun x hx => by cases hx; exact fun h => q.mf (.inl h.symm)) g8
  have f8 : Fr (FootQ mb qb p H) w w8 := (fr_ext h1).tr (fr_grew g8 fun a ha => by cases ha; exact .inr (.inl rfl))
  refine new_own (by simp [Value.oneCell']) fun w11 o11 e11 => ⟨ne, ne, _, ((qi8.ext h10).ext e11).slot.cellAt0 (i := 1) rfl, fun w13 h13 => ?_⟩
  have sz10 : w.heap.size ≤ w10.heap.size := Nat.le_trans f8.size h10.size
  have o11 := o11 B (Nat.le_trans hB sz10)
  have t13 := o11.ext h13
  have qi13 := ((qi8.ext h10).ext e11).ext h13
  have f13 : Fr (FootQ mb qb p H) w w13 := ((f8.tr (fr_ext h10)).tr (fr_ext e11)).tr (fr_ext h13)
  have hfr : ¬ FootQ mb qb p H w10.heap.size := fun h => by have := (q.foot h).2; omega
  refine run_mapUpdate kq mapq (a := id) (((m8.ext h10).ext e11).ext h13) fun w14 m14 g14 => ⟨ne, ne, fun w15 h15 => ?_⟩
  have g14' : Fr (fun b => b = mb) w13 w14 := fr_grew g14 fun a ha => by cases ha; rfl
  have qi14 := qi13.fr g14' fun b hb h => q.mf (h ▸ hb)
  have t14 := t13.fr g14' fun a ha h => by cases ha; exact hfr (.inl h)
  rw [pAdd_zero]
  refine run_iface (d := .pointer T_queue_row) (by kernel_rfl) (by simp) ⟨Ext.refl _, _, rfl, fun w18 h18 => run_iface (d := .pointer T_queue_thing) (by kernel_rfl) (by simp) ⟨Ext.refl _, _, rfl, fun w21 h21 => ?_⟩⟩
  have qi21 := ((qi14.ext h15).ext h18).ext h21
  have t21 := ((t14.ext h15).ext h18).ext h21
  have f21 : Fr (FootQ mb qb p H) w w21 := (((f13.tr (g14'.mono fun b hb => .inl hb)).tr (fr_ext h15)).tr (fr_ext h18)).tr (fr_ext h21)
  refine (heap_push_k (t := ⟨w10.heap.size, prio, id, born + 1⟩) (j := 0) qi21 q.hp (by omega) (Nat.le_trans hB f21.size) t21 fun h => hfr (.inr h)).mono fun v w22 ⟨qhv, p', c', Y, qi22, hp, hh, f22, np⟩ => ⟨qhv, fun w23 h23 => ⟨0, rfl, fun h => absurd rfl h, fun _ => ⟨hnone.1 hs, by omega, w10.heap.size, p', c', Y, QQ.ext ⟨qi22, ?_, hh, q.mB, ?_⟩ h23, hp, ?_, fun k hk => ?_⟩⟩⟩
  · have m21 := ((m14.ext h15).ext h18).ext h21
    refine m21.fr f22 ?_
    rintro (h | h | ⟨t, ht, h⟩)
    · exact q.mf (.inl h)
    · exact q.mf (.inr (.inl h))
    · rcases List.mem_cons.1 ht with rfl | ht
      · exact hfr (.inl h)
      · exact q.mf (.inr (.inr ⟨t, ht, h⟩))
  · intro h
    rcases foot_grow (fun u hu => List.mem_cons.1 (hp.mem_iff.1 hu)) np mb h with h | h
    · rcases h with h | h | ⟨t, ht, h⟩
      · exact q.mf (.inl h)
      · exact q.mf (.inr (.inl h))
      · rcases List.mem_cons.1 ht with rfl | ht
        · exact hfr (.inl h)
        · exact q.mf (.inr (.inr ⟨t, ht, h⟩))
    · have := ((m14.ext h15).ext h18 |>.ext h21).lt; omega
  · refine (f21.trans f22 fun b hb => ?_).tr (fr_ext h23)
    rcases hb with h | h | ⟨t, ht, h⟩
    · exact .inl (.inr (.inl h))
    · exact .inl (.inr (.inr (.inl h)))
    · rcases List.mem_cons.1 ht with rfl | ht
      · simp only at h; exact .inr (by omega)
      · exact .inl (.inr (.inr (.inr ⟨t, ht, h⟩)))
  · rcases hk with rfl | hk
    · exact .inl (.inl rfl)
    · rcases foot_grow (fun u hu => List.mem_cons.1 (hp.mem_iff.1 hu)) np k hk with h | h
      · rcases h with h | h | ⟨t, ht, h⟩
        · exact .inl (.inr (.inl h))
        · exact .inl (.inr (.inr (.inl h)))
        · rcases List.mem_cons.1 ht with rfl | ht
          · simp only at h; exact .inr (by omega)
          · exact .inl (.inr (.inr (.inr ⟨t, ht, h⟩)))
      · exact .inr (Nat.le_trans f21.size h)

theorem take_k (q : QQ B w qb mb born p c H m) (hn : H.length ≤ 1000) :
    FnP Try.prog F_queue_Queue_Take #[.pointer (ptr qb)] w fun v w' =>
      (H = [] ∧ v = .tuple #[.agg #[.int .i64 0, .int .i64 0], .bool false] ∧ Ext w w') ∨
      ∃ t Y, v = .tuple #[.agg #[.int .i64 t.prio, .int .i64 t.id], .bool true] ∧ QQ B w' qb mb born p c Y (mdel m t.id) ∧ (t :: Y).Perm H ∧ (∀ u ∈ H, ¬ ahead u t) ∧ Fr (FootQ mb qb p H) w w' := by
  have ne := ptr_ne qb
  refine ok_queue_Queue_Take (ptr qb) w _ fun b0 hb0 => ⟨ne, ne, _, _, _, q.qi.slot.cellAt0 (i := 0) rfl, fun h0 w4 h4 => .inl ⟨List.length_eq_zero_iff.1 (by omega), rfl, h4⟩, fun h0 => ⟨ne, ne, fun w4 x4 => ?_⟩⟩
  have h4 := extB_ext x4
  rw [pAdd_zero]
  refine run_iface (d := .pointer T_queue_row) (by kernel_rfl) (by simp) ⟨Ext.refl _, _, rfl, fun w7 x7 => ?_⟩
  have h7 := extB_ext x7
  have q7 := (q.ext h4).ext h7
  have lt4 := x4.lt b0 (by simp)
  have nf : ∀ k, FootQ mb qb p H k → k ≠ b0 := fun k hk h => by have := (q.foot hk).2; omega
  refine (heap_pop_k q7.qi q.hp (by omega) hn).mono fun v w8 ⟨t, j, Y, qhv, q8, hp, hh, hmin, ht, f8⟩ => ⟨?_, v, rfl, fun w10 x10 => ?_⟩
  · refine f8.kept fun b hb => ?_
    obtain rfl : b = b0 := by simpa using hb
    exact ⟨x7.lt b (by simp), fun h => nf b (.inr h) rfl⟩
  subst qhv
  have h10 := extB_ext x10
  have hth : t ∈ H := hp.mem_iff.1 (List.mem_cons_self ..)
  have mfY : ¬ Foot qb p Y mb := by
    rintro (h | h | ⟨u, hu, h⟩)
    · exact q.mf (.inl h)
    · exact q.mf (.inr (.inl h))
    · exact q.mf (.inr (.inr ⟨u, hp.mem_iff.1 (List.mem_cons_of_mem _ hu), h⟩))
  have tb : t.b ≠ mb := fun h => q.mf (.inr (.inr ⟨t, hth, h⟩))
  have tb0 : t.b ≠ b0 := nf _ (.inr (.inr (.inr ⟨t, hth, rfl⟩)))
  have m10 := (q7.mp.fr f8 q.mf).ext h10
  have net := ptr_ne t.b
  refine run_assert (d := .pointer T_queue_thing) (by kernel_rfl) (by simp) ⟨Ext.refl _, _, rfl, ne, ne, _, (q8.ext h10).slot.cellAt0 (i := 1) rfl, net, net, by rw [pAdd_zero]; exact net, _, (by rw [pAdd_zero]; exact (ht.ext h10).cellAt0 (i := 1) rfl), fun w15 x15 => ?_⟩
  have h15 := extB_ext x15
  have lt15 := x15.lt b0 (by simp)
  refine run_delete (ts := [3]) kq mapq (a := t.id) (m10.ext h15) fun w16 m16 g16 => ?_
  have f16 : Fr (fun b => b = mb) w15 w16 := fr_grew g16 fun a ha => by cases ha; rfl
  have q16 := ((q8.ext h10).ext h15).fr f16 fun b hb h => mfY (h ▸ hb)
  have t16 := ((ht.ext h10).ext h15).fr f16 fun a ha h => by cases ha; exact tb h
  rw [pAdd_zero]
  refine ⟨f16.kept fun b hb => ?_, rfl, net, net, net, _, t16.cellAt (i := 0) rfl, _, t16.cellAt (i := 1) rfl, fun w19 x19 => .inr ⟨t, Y, rfl, ?_, hp, hmin, ?_⟩⟩
  · obtain rfl : b = b0 := by simpa using hb
    exact ⟨lt15, fun h => nf b (.inl h) rfl⟩
  · have f19 : Fr (fun b => b = b0) w16 w19 := fr_extB x19 fun d hd => .inl (by simpa using hd)
    have hY : ∀ k, FootQ mb qb p Y k → FootQ mb qb p H k := fun k hk => by
      rcases hk with h | h | h | ⟨u, hu, h⟩
      · exact .inl h
      · exact .inr (.inl h)
      · exact .inr (.inr (.inl h))
      · exact .inr (.inr (.inr ⟨u, hp.mem_iff.1 (List.mem_cons_of_mem _ hu), h⟩))
    exact QQ.fr ⟨q16, m16, hh, q.mB, mfY⟩ f19 fun k hk h => nf k (hY k hk) h
  · have f16' : Fr (FootQ mb qb p H) w w16 := (((((fr_ext h4).tr (fr_ext h7)).tr (f8.mono fun b hb => .inr hb)).tr (fr_ext h10)).tr (fr_ext h15)).tr (f16.mono fun b hb => .inl hb)
    refine f16'.trans (fr_extB (S := fun b => b = b0) x19 fun d hd => .inl (by simpa using hd)) fun b hb => .inr (by omega)
end
end Go.Proofs.Ytblafknmfblgfaa
