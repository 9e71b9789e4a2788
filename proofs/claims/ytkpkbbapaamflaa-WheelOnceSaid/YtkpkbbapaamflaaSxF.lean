/- Footprints: what a call may turn is told as a set of blocks. -/
import Derived.Test.YtkpkbbapaamflaaSxR
set_option linter.unusedVariables false
set_option linter.unusedSimpArgs false
namespace Go.Sx
open Go.RowKit
variable {P : Program}

/-- From w to w' nothing that was there is turned but blocks of S. -/
structure Fr (S : Nat → Prop) (w w' : World) : Prop where
  os : w'.os = w.os
  tape : w'.tape = w.tape
  output : w'.output = w.output
  size : w.heap.size ≤ w'.heap.size
  block : ∀ k, k < w.heap.size → ¬ S k → w'.heap[k]? = w.heap[k]?

theorem Fr.refl (S : Nat → Prop) (w : World) : Fr S w w := ⟨rfl, rfl, rfl, Nat.le_refl _, fun _ _ _ => rfl⟩
theorem Fr.trans {S S' : Nat → Prop} {w w' w'' : World} (h : Fr S w w') (k : Fr S' w' w'') (hs : ∀ b, S' b → S b ∨ w.heap.size ≤ b) : Fr S w w'' :=
  ⟨k.os.trans h.os, k.tape.trans h.tape, k.output.trans h.output, Nat.le_trans h.size k.size, fun b hb hn =>
    (k.block b (Nat.lt_of_lt_of_le hb h.size) fun h' => (hs b h').elim hn fun h => by omega).trans (h.block b hb hn)⟩
theorem Fr.tr {S : Nat → Prop} {w w' w'' : World} (h : Fr S w w') (k : Fr S w' w'') : Fr S w w'' := h.trans k fun _ h => .inl h
theorem Fr.mono {S S' : Nat → Prop} {w w' : World} (h : Fr S w w') (hs : ∀ b, S b → S' b) : Fr S' w w' := ⟨h.os, h.tape, h.output, h.size, fun b hb hn => h.block b hb fun h' => hn (hs b h')⟩
theorem fr_ext {S : Nat → Prop} {w w' : World} (h : Ext w w') : Fr S w w' := ⟨h.os, h.tape, h.output, h.size, fun b hb _ => h.block b hb⟩
theorem fr_extB {S : Nat → Prop} {ds ns : List Nat} {w w' : World} (h : ExtB ds ns w w') (hd : ∀ d ∈ ds, S d ∨ w.heap.size ≤ d) : Fr S w w' := ⟨h.os, h.tape, h.output, h.size, fun b hb hn => h.block b hb fun h' => (hd b h').elim hn fun h => by omega⟩
theorem fr_grew {S : Nat → Prop} {w w' : World} {p q : Option Addr} (h : Grew w w' p q) (hs : ∀ a, p = some a → S a.block) : Fr S w w' :=
  ⟨h.by_.os, h.by_.tape, h.by_.output, h.by_.size, fun b hb hn => h.by_.block b hb fun he => by
    cases p with
    | none => simp [blk] at he
    | some a => simp [blk] at he; exact hn (he ▸ hs a rfl)⟩
/-- Where all that may turn came behind w0, nothing of w0 turns. -/
theorem Fr.ext {S : Nat → Prop} {w0 w w' : World} (h : Fr S w w') (h0 : Ext w0 w) (hs : ∀ b, S b → w0.heap.size ≤ b) : Ext w0 w' :=
  ⟨h.os.trans h0.os, h.tape.trans h0.tape, h.output.trans h0.output, Nat.le_trans h0.size h.size, fun b hb => (h.block b (Nat.lt_of_lt_of_le hb h0.size) fun h' => by have := hs b h'; omega).trans (h0.block b hb)⟩
theorem Fr.kept {S : Nat → Prop} {w w' : World} {ns : List Nat} (h : Fr S w w') (hn : ∀ b ∈ ns, b < w.heap.size ∧ ¬ S b) : Kept ns w w' := fun b hb => h.block b (hn b hb).1 (hn b hb).2

theorem Own.fr {B : Nat} {S : Nat → Prop} {w w' : World} {e : TypeId} {s : Nat} {p : Option Addr} {n c : Nat} {xs : List Value} (h : Own B w e s p n c xs) (k : Fr S w w') (hp : ∀ a, p = some a → ¬ S a.block) : Own B w' e s p n c xs := by
  cases p with
  | none =>
    refine ⟨h.1, ?_⟩
    rcases h.2 with hn | ⟨g, cap, cur, hv, _⟩
    · exact .inl hn
    · simp at hv
  | some a =>
    refine ⟨h.1, ?_⟩
    rcases h.2 with hn | ⟨g, cap, cur, hv, hb, hg, rest⟩
    · exact .inl hn
    · refine .inr ⟨g, cap, cur, hv, hb, ?_, rest⟩
      have : a = ⟨g, 0, none⟩ := by simp at hv; exact hv.1
      have hlt := (h.lt a rfl).2
      subst this
      rw [k.block g hlt (hp _ rfl)]; exact hg
theorem Cells.fr {S : Nat → Prop} {w w' : World} {p : Option Addr} {vs : List Value} (h : Cells w p vs) (k : Fr S w w') (hp : ∀ a, p = some a → ¬ S a.block) : Cells w' p vs := by
  intro i v hv
  obtain ⟨a, rfl, hb, hc⟩ := cell_some (h i v hv)
  show w'.cell? (a.add i) = some v
  rw [World.cell?_of_block (w := w) (by rw [add_block]; exact k.block _ hb (hp a rfl))]
  exact hc
theorem cell_fr {S : Nat → Prop} {w w' : World} {p : Option Addr} {i : Nat} {v : Value} (h : cell w p i = some v) (k : Fr S w w') (hp : ∀ a, p = some a → ¬ S a.block) : cell w' p i = some v := by
  obtain ⟨a, rfl, hb, hc⟩ := cell_some h
  show w'.cell? (a.add i) = some v
  rw [World.cell?_of_block (w := w) (by rw [add_block]; exact k.block _ hb (hp a rfl))]
  exact hc
theorem MapIs.fr {α : Type} [DecidableEq α] {enc : α → Value} {S : Nat → Prop} {w w' : World} {r : Nat} {m : List (α × Value)} (h : MapIs enc w r m) (k : Fr S w w') (hp : ¬ S r) : MapIs enc w' r m := by
  obtain ⟨es, c, h1, h2⟩ := h.es
  exact ⟨h.nodup, es, c, (k.block r h.lt hp).trans h1, h2⟩

/-- Cells of one block of the call's own. -/
theorem Own.cellAt {B : Nat} {w : World} {e : TypeId} {s : Nat} {p : Option Addr} {n c : Nat} {xs : List Value} (h : Own B w e s p n c xs) {i : Nat} {v : Value} (hv : xs[i]? = some v) : cell w p i = some v := h.cells i v hv
theorem Own.cellAt0 {B : Nat} {w : World} {e : TypeId} {s : Nat} {p : Option Addr} {n c : Nat} {xs : List Value} (h : Own B w e s p n c xs) {i : Nat} {v : Value} (hv : xs[i]? = some v) : cell w (pAdd p i) 0 = some v := by rw [cell_pAdd]; exact h.cells i v hv
theorem pAdd_zero (p : Option Addr) : pAdd p 0 = p := by cases p <;> simp [pAdd, add_zero]
/-- One cell of a block of the call's own. -/
theorem store_one {B : Nat} {w : World} {e : TypeId} {s : Nat} {q : Option Addr} {n c off : Nat} {xs : List Value} {v : Value} {ns : List Nat} {K : World → Prop}
    (ho : Own B w e s q n c xs) (hlen : off < xs.length) (h1 : v.oneCell' = true) (hns : ∀ b ∈ ns, ∀ x, q = some x → x.block ≠ b)
    (hk : ∀ w', Own B w' e s q n c (xs.set off v) → Grew w w' q q → K w') : Store w (pAdd q off) [v] ns K :=
  store_own ho rfl (by simp; omega) (by simp) (by simpa using h1) hns hk

/-- A value behind an interface, made of one that is one cell. -/
theorem method_at {t : TypeId} {i : TypeInfo} {m : Method} {f : FuncId} {pr : Bool} {name : String} {v r : Value} {w : World} {n : Nat} (hi : P.info? t = some i) (hm : i.methods.find? (·.name == name) = some m) (hp : m.path = #[]) (hf : m.func = some (f, pr))
    (hr : (receiverAt t (.val v) pr (some ((name.splitOn ".").getLastD name))).run P w = .ok r w) : (method (n + 1) t v name).run P w = .ok (f, r) w := by
  have h1 : (typeInfo t).run P w = .ok i w := by
    unfold typeInfo
    simp only [Sem.run_bind]
    rw [show Sem.run P program w = .ok P w from rfl]
    simp [hi]
  simp only [method, Sem.run_bind, h1, Result.andThen_ok, hm, hp, hf]
  simp [follow] at hr ⊢
  rw [hr]; rfl
theorem recv_ptr {t e : TypeId} (ht : P.underlying t = some (.pointer e)) {v : Value} {o : Option String} {w : World} : (receiverAt t (.val v) true o).run P w = .ok v w := by
  unfold receiverAt
  simp only [Sem.run_bind]
  rw [show (underlying t).run P w = .ok (.pointer e) w from by
    unfold underlying
    simp only [Sem.run_bind]
    rw [show Sem.run P program w = .ok P w from rfl]
    simp [ht]]
  simp [Place.get]
theorem recv_load {t e : TypeId} {d : TypeDesc} (ht : P.underlying t = some (.pointer e)) (hd : P.underlying e = some d) (ha : isAggT P e = false) {a : Addr} {v : Value} {o : Option String} {w : World} (hc : cell w (some a) 0 = some v) : (receiverAt t (.val (.pointer (some a))) false o).run P w = .ok v w := by
  have hc' : w.cell? a = some v := by simpa [cell, add_zero] using hc
  unfold receiverAt
  simp only [Sem.run_bind]
  rw [show (underlying t).run P w = .ok (.pointer e) w from run_underlying ht w]
  cases o with
  | none => simp [Place.get, loadVar, run_isAgg' hd, ha, hc', asAddr]
  | some name =>
    have e : Builtin.ssaWrapNilChk_ #[t] t #[.pointer (some a), strVal "", strVal name] = pure (.pointer (some a)) := rfl
    simp [Place.get, e, loadVar, run_isAgg' hd, ha, hc', asAddr]
theorem run_iface {t : TypeId} {d : TypeDesc} (ht : P.underlying t = some d) (hn : ∀ m, d ≠ .interface m) {v : Value} {w : World} {K : Value → World → Prop} (h : K (.iface t v) w) : Run P (.makeInterface t v) w K := by
  refine ⟨.iface t v, w, ?_, h⟩
  simp only [MC.sem, Instr.makeInterface, Sem.run_bind, run_underlying ht, Result.andThen_ok]
  cases d <;> first | rfl | exact absurd rfl (hn _)
theorem run_assert {t x : TypeId} {d : TypeDesc} (ht : P.underlying t = some d) (hn : ∀ m, d ≠ .interface m) {v : Value} {w : World} {K : Value → World → Prop} (h : K v w) : Run P (.typeAssert (.iface t v) x t false) w K := by
  refine ⟨v, w, ?_, h⟩
  simp only [MC.sem, Instr.typeAssert, Sem.run_bind, run_underlying ht, Result.andThen_ok]
  cases d <;> first | simp | exact absurd rfl (hn _)
theorem push_B {t ty e : TypeId} {s b : Nat} {z : Value} (he : slEl P t = some (e, s, b, z)) (hs : 0 < s) {B : Nat} {w : World} {p : Option Addr} {n c : Nat} {xs : List Value} {v : Value} {ns : List Nat}
    {K : Option Addr → Nat → Nat → World → Prop} (ho : Own B w e s p n c xs) (hB : B ≤ w.heap.size) (hns : ∀ b ∈ ns, ∀ x, p = some x → x.block ≠ b) (hv : v.cells.size = s) (h1 : ∀ u ∈ v.cells.toList, u.oneCell' = true) (hb : (n + 1) * b ≤ 140737488355328) (hs24 : s ≤ 16777216) (hm : n + 1 ≤ 9223372036854775807)
    (hk : ∀ p' c' w', Own B w' e s p' (n + 1) c' (xs ++ v.cells.toList) → Grew w w' p p' → p' ≠ none → (∀ b ∈ ns, ∀ x, p' = some x → x.block ≠ b) → K p' (n + 1) c' w') :
    ∀ w1, ExtB [] ns w w1 → Run P (.buildSlice t 1 [(0, v)]) w1 fun v2 w2 => Ext w1 w2 ∧ ∃ q : Option Addr, ∃ m : Nat, ∃ d : Nat, v2 = .slice q m d ∧ ∀ w3, ExtB [] ns w2 w3 →
      Run P (.append #[t, t] ty [.slice p n c, .slice q m d]) w3 fun v4 w4 => Kept ns w3 w4 ∧ ∃ q' : Option Addr, ∃ m' : Nat, ∃ d' : Nat, v4 = .slice q' m' d' ∧ K q' m' d' w4 := by
  intro w1 x1
  have e1 := extB_ext x1
  refine run_lit he [v] rfl rfl (fun u hu => by simp at hu; subst hu; exact hv) (by omega) (by omega) fun w2 o2 e2 => ⟨e2, _, _, _, rfl, fun w3 x3 => ?_⟩
  have e3 := extB_ext x3
  have o2 := (o2 w1.heap.size (Nat.le_refl _)).ext e3
  have ho' := ((ho.ext e1).ext e2).ext e3
  have hsz : B ≤ w3.heap.size := Nat.le_trans hB (Nat.le_trans e1.size (Nat.le_trans e2.size e3.size))
  refine run_app he hs ho' hsz (by simp) (news := v.cells.toList) (by simp [hv]) (by simpa using o2.cells) h1 hb hm fun p' c' w4 h2 h3 h4 => ⟨fun b hb => ?_, _, _, _, rfl, hk p' c' w4 h2 ?_ ?_ ?_⟩
  · refine h3.by_.block b (x3.lt b hb) fun he => ?_
    cases p with
    | none => cases he
    | some y => simp [blk] at he; exact hns b hb y rfl he.symm
  · exact Grew.of_ext e1 (Grew.of_ext e2 (Grew.of_ext e3 h3))
  · intro hn; have := h4.1 hn; omega
  · intro b hb y hy heq
    rcases h3.new with hn | hn
    · subst hy
      cases p with
      | none => simp [blk] at hn
      | some z' => simp [blk] at hn; exact hns b hb z' rfl (by omega)
    · have := hn y hy
      have := x3.lt b hb
      omega
theorem Own.weaken {B B' : Nat} {w : World} {e : TypeId} {s : Nat} {p : Option Addr} {n c : Nat} {xs : List Value} (hB : B' ≤ B) (h : Own B w e s p n c xs) : Own B' w e s p n c xs := by
  refine ⟨h.1, ?_⟩
  rcases h.2 with hn | ⟨g, cap, cur, hv, hb, rest⟩
  · exact .inl hn
  · exact .inr ⟨g, cap, cur, hv, Nat.le_trans hB hb, rest⟩
end Go.Sx
