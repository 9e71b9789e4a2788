/- Plan. -/
import Derived.Test.YtblafknmfblgfaaFaG
set_option linter.unusedVariables false
set_option linter.unusedSimpArgs false
namespace Go.Proofs.Ytblafknmfblgfaa
open Go.Sx Go.RowKit

def encO (x : Int × Int) : List Value := [.int .i64 x.1, .int .i64 x.2]
theorem encO_len (x : Int × Int) : (encO x).length = 2 := rfl
structure QS (n : Nat) (Sq : Nat → Prop) (F : Fm) (qb : Nat) (w' : World) (H : List Th) : Prop where
  ex : ∃ mb born p c m, QQ n w' qb mb born p c H m ∧ Rel H m ∧ ∀ b, FootQ mb qb p H b → Sq b
  ids : Ids H
  pr : ∀ t ∈ H, t.prio = prioAt F t.id
  bo : ∀ t ∈ H, ∀ u ∈ H, t.id < u.id → t.born < u.born
theorem QS.ext {n : Nat} {Sq : Nat → Prop} {F : Fm} {qb : Nat} {w w' : World} {H : List Th} (q : QS n Sq F qb w H) (e : Ext w w') : QS n Sq F qb w' H := by
  obtain ⟨mb, born, p, c, m, h1, h2, h3⟩ := q.ex
  exact ⟨⟨mb, born, p, c, m, h1.ext e, h2, h3⟩, q.ids, q.pr, q.bo⟩
theorem QS.fr {n : Nat} {Sq S : Nat → Prop} {F : Fm} {qb : Nat} {w w' : World} {H : List Th} (q : QS n Sq F qb w H) (f : Fr S w w') (hS : ∀ b, Sq b → ¬ S b) : QS n Sq F qb w' H := by
  obtain ⟨mb, born, p, c, m, h1, h2, h3⟩ := q.ex
  exact ⟨⟨mb, born, p, c, m, h1.fr f fun b hb => hS b (h3 b hb), h2, h3⟩, q.ids, q.pr, q.bo⟩
def qlen (qb : Nat) (w : World) : Nat := match Go.Sx.cell w (ptr qb) 0 with | some (.slice _ n _) => n | _ => 0
theorem QS.len {n : Nat} {Sq : Nat → Prop} {F : Fm} {qb : Nat} {w : World} {H : List Th} (q : QS n Sq F qb w H) : qlen qb w = H.length := by
  obtain ⟨mb, born, p, c, m, h1, _⟩ := q.ex
  have : Go.Sx.cell w (ptr qb) 0 = some (.slice p H.length c) := h1.qi.slot.cells 0 _ rfl
  unfold qlen; rw [this]
/-- What others own while a plan is made: the queue's blocks and the row's. -/
def OQ (O Sq : Nat → Prop) (out : Option Addr) (b : Nat) : Prop := O b ∨ Sq b ∨ ∃ a, out = some a ∧ a.block = b
structure PS (O : Nat → Prop) (B fb : Nat) (w : World) (P : Pl) (F : Fm) (Sq : Nat → Prop) (w' : World) (G : Fm) (outs : List (Int × Int)) (T Rm : List Int) (out : Option Addr) (outc : Nat) : Prop where
  fx : ∃ PP, PP.jp = P.jp ∧ FXO (OQ O Sq out) B w' fb PP G
  fr : Fr (ft fb P.jp) w w'
  run : PRun F T G outs
  hs : okHs G.hosts
  job : G.jobs.map (·.job) = F.jobs.map (·.job)
  own : Own w.heap.size w' T_Start 2 out outs.length outc (outs.flatMap encO)
  ap : ∀ a, out = some a → ¬ Sq a.block
  perm : (T ++ Rm).Perm (rdy F)
  pw : T.Pairwise (before F)
  lt : ∀ a ∈ T, ∀ b ∈ Rm, before F a b
  len : outs.length ≤ T.length

section
variable {O Sq : Nat → Prop} {B fb qb : Nat} {w : World} {P : Pl} {F G : Fm} {outs : List (Int × Int)} {T Rm : List Int} {out : Option Addr} {outc : Nat}
theorem PS.fr' {w1 w2 : World} (s : PS O B fb w P F Sq w1 G outs T Rm out outc) (f : Fr Sq w1 w2) (hq : ∀ b, Sq b → w.heap.size ≤ b) : PS O B fb w P F Sq w2 G outs T Rm out outc := by
  obtain ⟨PP, h1, h2⟩ := s.fx
  exact ⟨⟨PP, h1, h2.fr f fun b hb => .inr (.inl hb)⟩, s.fr.trans f fun b hb => .inr (hq b hb), s.run, s.hs, s.job, s.own.fr f s.ap, s.ap, s.perm, s.pw, s.lt, s.len⟩
theorem PS.ext {w1 w2 : World} (s : PS O B fb w P F Sq w1 G outs T Rm out outc) (e : Ext w1 w2) : PS O B fb w P F Sq w2 G outs T Rm out outc := by
  obtain ⟨PP, h1, h2⟩ := s.fx
  exact ⟨⟨PP, h1, h2.ext e⟩, s.fr.tr (fr_ext e), s.run, s.hs, s.job, s.own.ext e, s.ap, s.perm, s.pw, s.lt, s.len⟩
theorem PS.shift {w1 : World} {Rm' : List Int} (s : PS O B fb w P F Sq w1 G outs T Rm out outc) (h : Rm'.Perm Rm) : PS O B fb w P F Sq w1 G outs T Rm' out outc :=
  ⟨s.fx, s.fr, s.run, s.hs, s.job, s.own, s.ap, (List.Perm.append_left T h).trans s.perm, s.pw, fun a ha b hb => s.lt a ha b (h.mem_iff.1 hb), s.len⟩
theorem take_Q {n : Nat} {w1 : World} {H : List Th} (q : QS n Sq F qb w1 H) (hn : H.length ≤ 60) :
    FnP Try.prog F_queue_Queue_Take #[.pointer (ptr qb)] w1 fun v w2 => ∃ (a b : Int) (is : Bool) (Y : List Th), v = .tuple #[.agg #[.int .i64 a, .int .i64 b], .bool is] ∧ QS n Sq F qb w2 Y ∧ Fr Sq w1 w2 ∧
      ((is = false ∧ H = [] ∧ Y = []) ∨ (is = true ∧ Y.length < H.length ∧ (∀ u ∈ Y, before F b u.id) ∧ (b :: Y.map (·.id)).Perm (H.map (·.id)))) := by
  obtain ⟨mb, born, p, c, m, h1, h2, h3⟩ := q.ex
  refine (take_k h1 (by omega)).mono fun v w2 hr => ?_
  rcases hr with ⟨rfl, hv, e⟩ | ⟨t, Y, hv, q2, hp, hmin, f⟩
  · exact ⟨0, 0, false, [], hv, q.ext e, fr_ext e, .inl ⟨rfl, rfl, rfl⟩⟩
  · have f' : Fr Sq w1 w2 := f.mono h3
    obtain ⟨hrel, hids⟩ := rel_del h2 h1.mp.nodup q.ids hp
    have hY : ∀ u ∈ Y, u ∈ H := fun u hu => hp.mem_iff.1 (List.mem_cons_of_mem _ hu)
    have ht : t ∈ H := hp.mem_iff.1 (List.mem_cons_self ..)
    have hnd : t.id ∉ Y.map (·.id) := by
      have : ((t :: Y).map (·.id)).Nodup := ((hp.map _).nodup_iff).2 q.ids
      simp only [List.map_cons, List.nodup_cons] at this
      exact this.1
    have hb : ∀ u ∈ Y, before F t.id u.id := fun u hu => by
      have h4 := hmin u (hY u hu)
      have h5 := q.pr t ht
      have h6 := q.pr u (hY u hu)
      have h7 : t.id ≠ u.id := fun h => hnd (by rw [h]; exact List.mem_map_of_mem hu)
      unfold ahead at h4
      unfold before
      rw [← h5, ← h6]
      by_cases h8 : u.id < t.id
      · have := q.bo u (hY u hu) t ht h8; omega
      · omega
    have hperm : (t.id :: Y.map (·.id)).Perm (H.map (·.id)) := by
      have := hp.map (·.id)
      simpa using this
    refine ⟨t.prio, t.id, true, Y, hv, ⟨⟨mb, born, p, c, _, q2, hrel, fun b hb => h3 b ?_⟩, hids, fun u hu => q.pr u (hY u hu), fun u hu v hv => q.bo u (hY u hu) v (hY v hv)⟩, f', .inr ⟨rfl, by have := hp.length_eq; simp at this; omega, hb, hperm⟩⟩
    rcases hb with rfl | rfl | ⟨a, ha, rfl⟩ | ⟨u, hu, rfl⟩
    · exact .inl rfl
    · exact .inr (.inl rfl)
    · exact .inr (.inr (.inl ⟨a, ha, rfl⟩))
    · exact .inr (.inr (.inr ⟨u, hY u hu, rfl⟩))
theorem FXO.go {O' S : Nat → Prop} {w9 : World} (x : FXO O B w fb P F) (f : Fr S w w9) (hS : ∀ b, S b → O b) (h : ∀ b, O' b → O b ∨ (w.heap.size ≤ b ∧ b < w9.heap.size)) : FXO O' B w9 fb P F := by
  have f' := f.mono hS
  have up : ∀ {w''}, Fr (ftO O' fb P.jp) w9 w'' → Fr (ftO O fb P.jp) w w'' := fun k => (f'.mono fun b hb => .inl hb).trans k fun b hb => by
    rcases hb with hb | hb
    · rcases h b hb with h | h
      · exact .inl (.inl h)
      · exact .inr h.1
    · exact .inl (.inr hb)
  have x9 := x.fr f hS
  exact ⟨x9.slot, x9.arr, x.map, fun w'' k => x.hs w'' (up k), fun r hr w'' k => x.js r hr w'' (up k), x.ap, x.hO, x.jO, fun b hb => by
    rcases h b hb with h | h
    · have := x.olt b h; have := f.size; omega
    · exact h.2, fun b hb hf => by
    rcases h b hb with h | h
    · exact x.odis b h hf
    · have := (x.foot hf).2; omega⟩
theorem FXO.more {O' : Nat → Prop} {w9 : World} (x : FXO O B w fb P F) (e : Ext w w9) (h : ∀ b, O' b → O b ∨ (w.heap.size ≤ b ∧ b < w9.heap.size)) : FXO O' B w9 fb P F :=
  x.go (fr_ext (S := fun _ => False) e) (fun _ h => h.elim) h
theorem FXO.less {O' : Nat → Prop} (x : FXO O' B w fb P F) (h : ∀ b, O b → O' b) : FXO O B w fb P F := by
  have up : ∀ {w''}, Fr (ftO O fb P.jp) w w'' → Fr (ftO O' fb P.jp) w w'' := fun k => k.mono fun b hb => hb.elim (fun g => .inl (h b g)) .inr
  exact ⟨x.slot, x.arr, x.map, fun w'' k => x.hs w'' (up k), fun r hr w'' k => x.js r hr w'' (up k), x.ap, x.hO, x.jO, fun b hb => x.olt b (h b hb), fun b hb => x.odis b (h b hb)⟩
/-- The rows of what waits, as they were put. -/
def HQ (F : Fm) (k : Nat) (born : Int) (H : List Th) : Prop := (H.map (·.id)).Perm (rdyTo F k) ∧ (∀ t ∈ H, t.prio = prioAt F t.id ∧ t.born ≤ born) ∧ (∀ t ∈ H, ∀ u ∈ H, t.id < u.id → t.born < u.born) ∧ 0 ≤ born ∧ born ≤ k
theorem hq_put {k : Nat} {born : Int} {H Y : List Th} {b : Nat} (h : HQ F k born H) (hr : readyB F (jobAt F k) = true) (hp : Y.Perm (⟨b, (jobAt F k).job.prio, (k : Int) + 1, born + 1⟩ :: H)) : HQ F (k + 1) (born + 1) Y := by
  obtain ⟨h1, h2, h3, h4, h5⟩ := h
  have idk : ∀ t ∈ H, t.id ≤ k := fun t ht => (mem_rdyTo.1 (h1.mem_iff.1 (List.mem_map_of_mem ht))).2.1
  have mem : ∀ t ∈ Y, t = ⟨b, (jobAt F k).job.prio, (k : Int) + 1, born + 1⟩ ∨ t ∈ H := fun t ht => List.mem_cons.1 (hp.mem_iff.1 ht)
  refine ⟨?_, fun t ht => ?_, fun t ht u hu hlt => ?_, by omega, by omega⟩
  · unfold rdyTo
    rw [if_pos hr]
    have := hp.map (·.id)
    refine this.trans ?_
    rw [List.map_cons]
    exact ((h1.cons _).trans (List.perm_append_singleton _ _).symm)
  · rcases mem t ht with rfl | ht
    · refine ⟨?_, Int.le_refl _⟩
      unfold prioAt
      rw [show ((k : Int) + 1 - 1).toNat = k by omega]
    · have := h2 t ht
      exact ⟨this.1, by omega⟩
  · rcases mem t ht with rfl | ht <;> rcases mem u hu with rfl | hu
    · exact absurd hlt (by simp)
    · have := idk u hu; simp only at hlt; omega
    · have := (h2 t ht).2; simp only; omega
    · exact h3 t ht u hu hlt
end
end Go.Proofs.Ytblafknmfblgfaa
