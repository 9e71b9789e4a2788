/- Scripts with gaps: Names and Fill. -/
import Derived.Test.YtjeboeahhhhbdaaDoorTmA
import Derived.Test.YtjeboeahhhhbdaaDoorSxF
set_option linter.unusedVariables false
set_option linter.unusedSimpArgs false
namespace Go.Proofs.YtjeboeahhhhbdaaDoor
open Go.Sx Go.RowKit

abbrev sv (l : By) : Value := .string (ofL l)
/-- The names found so far, in memory. -/
structure NI (w0 : World) (p1 : Option Addr) (L : List Sg) (w : World) : Prop where
  ext : Ext w0 w
  row : ∃ p n c, Own w0.heap.size w T_sl_string 1 p1 1 1 [.slice p n c] ∧ Own w0.heap.size w T_string 1 p n c ((names L).map sv) ∧ Apart p1 p
theorem NI.more {w0 w w' : World} {p1 : Option Addr} {L : List Sg} (h : NI w0 p1 L w) (e : Ext w w') : NI w0 p1 L w' := by
  obtain ⟨p, n, c, h1, h2, h3⟩ := h.row
  exact ⟨h.ext.trans e, p, n, c, h1.ext e, h2.ext e, h3⟩
theorem names_app (L M : List Sg) : names (L ++ M) = nub (names L) (gaps M) := by unfold names; rw [gaps_app, nub_app]
theorem names_len (L : List Sg) : (names L).length ≤ (gaps L).length := by
  have key : ∀ (r acc : List By), (nub acc r).length ≤ acc.length + r.length := by
    intro r
    induction r with
    | nil => intro acc; simp [nub]
    | cons n r ih =>
      intro acc
      simp only [nub, List.length_cons]
      by_cases hn : n ∈ acc
      · have := ih acc; rw [if_pos hn]; omega
      · have := ih (acc ++ [n]); rw [if_neg hn]; simp at this; omega
  simpa [names] using key (gaps L) []
theorem names2_k {w0 : World} {p1 : Option Addr} {L : List Sg} {n : By} {w : World} (h : NI w0 p1 L w) (hl : (gaps L).length ≤ 1000000) :
    FnP Tryd.prog F_tmpl_Names_2 #[.string (ofL n), .pointer p1] w fun v w' => v = .tuple #[] ∧ NI w0 p1 (L ++ [.gap n]) w' := by
  obtain ⟨p, m, c, h1, h2, h3⟩ := h.row
  have hcell := h1.cellAt (i := 0) rfl
  have hm : (names L).length = m := h2.leni
  have hnl := names_len L
  have hna : names (L ++ [.gap n]) = if n ∈ names L then names L else names L ++ [n] := by rw [names_app]; rfl
  refine ok_tmpl_Names_2 (ofL n) p1 w _ ⟨p, m, c, hcell, fun w3 e3 => ?_⟩
  have hcl : Cells w3 p (((names L).map ofL).map Value.string) := by
    have := (h2.ext e3).cells
    rw [List.map_map]; exact this
  have hml : ((names L).map ofL).length = m := by rw [List.length_map]; exact hm
  rw [← hml]
  refine (Contains_k ((names L).map ofL) p c (ofL n) (by simp; omega) w3 hcl).mono fun v w4 ⟨e4, b, hv, hb⟩ => ⟨e4, b, hv, fun hf => ?_, fun ht w6 e6 => ⟨rfl, ?_⟩⟩
  · have hno : n ∉ names L := fun hm => by
      have := hb.2 (List.mem_map.2 ⟨n, hm, rfl⟩)
      rw [hf] at this; cases this
    refine ⟨p, m, c, hcell, push elem_sl_string (by omega) h2 h.ext.size rfl (by intro u hu; simp [Value.cells] at hu; subst hu; rfl) (by omega) (by omega) (by omega) fun p' c' w' o' g' np => ?_⟩
    have h1' := h1.st h3 g'
    have a' := h3.grew h1 g'
    have st := store_one (off := 0) h1' (by simp) (v := .slice p' (m + 1) c') rfl (ns := []) (by simp) (K := fun w5 => ∀ w20, Ext w5 w20 → (Value.tuple #[] = Value.tuple #[] ∧ NI w0 p1 (L ++ [.gap n]) w20)) fun w5 o5 g5 w20 e20 => ⟨rfl, ?_⟩
    · rw [pAdd_zero] at st; exact st
    · have x' : Ext w0 w' := g'.ext h.ext h2
      have x5 : Ext w0 w5 := g5.ext x' h1'
      refine ⟨x5.trans e20, p', m + 1, c', o5.ext e20, ?_, a'⟩
      rw [hna, if_neg hno, List.map_append]
      exact (o'.st a'.symm g5).ext e20
  · have hin : n ∈ names L := by
      obtain ⟨x, hx, he⟩ := List.mem_map.1 (hb.1 ht)
      rw [← ofL_inj he]; exact hx
    have := h.more e6
    obtain ⟨p, m, c, h1, h2, h3⟩ := this.row
    exact ⟨this.ext, p, m, c, h1, by rw [hna, if_pos hin]; exact h2, h3⟩

theorem Names_k (s : ByteArray) (hs : s.size ≤ 9223372036854775807) (w : World) : FnP Tryd.prog F_tmpl_Names #[.string s] w fun v w' => Ext w w' ∧ ∃ (p : Option Addr) (n c : Nat) (e : Int), v = .tuple #[.slice p n c, .int .i64 e] ∧
    ((e ≠ 0 ∧ n = 0 ∧ (s.size ≤ 2000 → ∀ L, ¬ Segs s.data.toList L true)) ∨
     (e = 0 ∧ s.size ≤ 2000 ∧ ∃ L, Segs s.data.toList L true ∧ n = (names L).length ∧ Own w.heap.size w' T_string 1 p n c ((names L).map sv))) := by
  refine ok_tmpl_Names s w _ ⟨fun hbig w0 h0 => ⟨h0, _, _, _, _, rfl, .inl ⟨by omega, rfl, fun h => by omega⟩⟩, fun hle w0 h0 => ?_⟩
  refine new_own (by intro v hv; simp at hv; subst hv; rfl) fun w1 o1 e1 w2 e2 => ?_
  generalize hp1 : (some ⟨w0.heap.size, 0, none⟩ : Option Addr) = p1
  rw [hp1] at o1
  have n0 : NI w p1 [] w1 := ⟨h0.trans e1, none, 0, 0, o1 _ h0.size, Own.nil, Apart.nil⟩
  refine (parse_k s hs (.func (.func 23) #[] #[]) (.func (.func 24) #[] #[.pointer p1]) (NI w p1) w2 (n0.more e2) (fun L w w' h e => h.more e) (fun L l w3 h _ _ => ?_) (fun L n w3 h hn hl => ?_)).mono fun v w3 ⟨L, b, hv, hseg, hN⟩ => ⟨b, hv, fun hf w5 h5 => ?_, fun ht => ?_⟩
  · exact ⟨23, #[], rfl, ok_tmpl_Names_1 (ofL l) w3 _ fun w4 h4 => ⟨rfl, by
      have := h.more h4
      obtain ⟨p, m, c, a1, a2, a3⟩ := this.row
      exact ⟨this.ext, p, m, c, a1, by rw [names_app]; exact a2, a3⟩⟩⟩
  · exact ⟨24, #[.pointer p1], rfl, names2_k h (by omega)⟩
  · subst hf
    refine ⟨hN.ext.trans h5, _, _, _, _, rfl, .inl ⟨by omega, rfl, fun _ M hM => ?_⟩⟩
    have := (hseg.uniq hM).2
    cases this
  · subst ht
    obtain ⟨p, m, c, a1, a2, a3⟩ := hN.row
    refine ⟨p, m, c, a1.cellAt (i := 0) rfl, fun w8 h8 => ⟨hN.ext.trans h8, _, _, _, _, rfl, .inr ⟨rfl, by omega, L, hseg, ?_, a2.ext h8⟩⟩⟩
    exact a2.leni.symm

/-! ### Fill -/
structure Lb where
  key : ByteArray
  val : ByteArray
  deriving Inhabited
abbrev encLb (x : Lb) : List Value := [.string x.key, .string x.val]
abbrev Lbs (w : World) (p : Option Addr) (L : List Lb) : Prop := Recs 2 encLb w p L
def keys (l : List Lb) : List ByteArray := l.map (·.key)
def kOk (l : List Lb) : Prop := (∀ x ∈ l, lbB x.key = true) ∧ (keys l).Nodup
def findL (l : List Lb) (k : ByteArray) : Option Lb := l.find? fun x => decide (x.key = k)
/-- The value of a name. -/
def vOf (l : List Lb) (n : By) : By := match findL l (ofL n) with | some x => x.val.data.toList | none => []
def mOf (l : List Lb) : List (ByteArray × Value) := l.map fun x => (x.key, .string x.val)
theorem mkeys_mOf (l : List Lb) : mkeys (mOf l) = keys l := by unfold mkeys mOf keys; rw [List.map_map]; rfl
theorem mget_mOf (l : List Lb) (k : ByteArray) : mget (mOf l) k = (findL l k).map fun x => .string x.val := by
  induction l with
  | nil => rfl
  | cons x r ih =>
    unfold mOf findL at *
    simp only [List.map_cons, mget, List.find?_cons]
    by_cases h : x.key = k
    · simp [h]
    · simp only [h, decide_false, if_false]; exact ih
theorem findL_none {l : List Lb} {k : ByteArray} : findL l k = none ↔ k ∉ keys l := by
  unfold findL keys
  rw [List.find?_eq_none]
  constructor
  · intro h hm
    obtain ⟨x, hx, he⟩ := List.mem_map.1 hm
    exact h x hx (by simp [he])
  · intro h x hx hd
    exact h (List.mem_map.2 ⟨x, hx, by simpa using hd⟩)
theorem findL_mem {l : List Lb} {k : ByteArray} {x : Lb} (h : findL l k = some x) : x ∈ l ∧ x.key = k := by
  unfold findL at h
  exact ⟨List.mem_of_find?_eq_some h, by simpa using List.find?_some h⟩
theorem mset_new {m : List (ByteArray × Value)} {a : ByteArray} (h : a ∉ mkeys m) (v : Value) : mset m a v = m ++ [(a, v)] := by
  induction m with
  | nil => rfl
  | cons x r ih =>
    obtain ⟨c, u⟩ := x
    have e2 : mkeys ((c, u) :: r) = c :: mkeys r := rfl
    rw [e2, List.mem_cons, not_or] at h
    simp only [mset]
    rw [if_neg (fun e => h.1 e.symm), ih h.2]; rfl
/-- A piece's text, put behind what is there, if that is not too long. -/
def putL (acc x : By) : By := if acc.length ≤ 2000 then acc ++ x else acc
def pc (v : By → By) : Sg → By
  | .txt l => l
  | .gap n => v n
def outL (v : By → By) (L : List Sg) : By := L.foldl (fun acc g => putL acc (pc v g)) []
theorem outL_app (v : By → By) (L : List Sg) (g : Sg) : outL v (L ++ [g]) = putL (outL v L) (pc v g) := by simp [outL]
theorem flat_pc (v : By → By) (g : Sg) (L : List Sg) : flat v (g :: L) = pc v g ++ flat v L := by cases g <;> rfl
theorem outL_flat (v : By → By) : ∀ (L : List Sg) (acc : By), ((L.foldl (fun acc g => putL acc (pc v g)) acc).length ≤ 2000 ↔ (acc ++ flat v L).length ≤ 2000) ∧ ((acc ++ flat v L).length ≤ 2000 → L.foldl (fun acc g => putL acc (pc v g)) acc = acc ++ flat v L)
  | [], acc => by simp [flat]
  | g :: L, acc => by
    rw [List.foldl_cons, flat_pc]
    have ih := outL_flat v L (putL acc (pc v g))
    by_cases h : acc.length ≤ 2000
    · have e : putL acc (pc v g) = acc ++ pc v g := if_pos h
      rw [e] at ih ⊢
      rw [← List.append_assoc]; exact ih
    · have e : putL acc (pc v g) = acc := if_neg h
      rw [e] at ih ⊢
      have h1 : ¬ (acc ++ flat v L).length ≤ 2000 := by simp; omega
      have h2 : ¬ (acc ++ (pc v g ++ flat v L)).length ≤ 2000 := by simp; omega
      exact ⟨by rw [ih.1]; exact ⟨fun h => absurd h h1, fun h => absurd h h2⟩, fun h => absurd h h2⟩
theorem outL_le {v : By → By} {L : List Sg} : (outL v L).length ≤ 2000 ↔ (flat v L).length ≤ 2000 := by simpa [outL] using (outL_flat v L []).1
theorem outL_eq {v : By → By} {L : List Sg} (h : (flat v L).length ≤ 2000) : outL v L = flat v L := by simpa [outL] using (outL_flat v L []).2 (by simpa using h)

theorem kS : KeyT Tryd.prog T_string Value.string .string := keyT_str (by kernel_rfl)
theorem mapS : Tryd.prog.underlying T_map_string_string = some (.map T_string T_string) := by kernel_rfl
theorem look2 {w : World} {r : Nat} {l : List Lb} (h : MapIs Value.string w r (mOf l)) {k : ByteArray} {Q : Value → World → Prop}
    (hk : Q (.tuple #[.string ((findL l k).elim ⟨#[]⟩ (·.val)), .bool (findL l k).isSome]) w) : Run Tryd.prog (.lookup T_map_string_string (.map (some r)) (.string k) true) w Q := by
  obtain ⟨i, h1, h2, _⟩ : ∃ i, Tryd.prog.info? T_string = some i ∧ i.zero = some (.string ⟨#[]⟩) ∧ True := by
    obtain ⟨i, _, h2, h6, _⟩ := slEl_some elem_sl_string
    exact ⟨i, h2, h6, trivial⟩
  refine run_lookup kS mapS h1 h2 h ?_
  rw [mget_mOf]
  cases h : findL l k <;> (rw [h] at hk; exact hk)
theorem look1 {w : World} {r : Nat} {l : List Lb} (h : MapIs Value.string w r (mOf l)) {k : ByteArray} {Q : Value → World → Prop}
    (hk : Q (.string ((findL l k).elim ⟨#[]⟩ (·.val))) w) : Run Tryd.prog (.lookup T_map_string_string (.map (some r)) (.string k) false) w Q := by
  refine run_look kS mapS elem_sl_string h ?_
  rw [mget_mOf]
  cases h : findL l k <;> (rw [h] at hk; exact hk)

open Lib in
theorem bldF_ext {B b : Nat} {bs : List Value} {w w' : World} (h : IsBuilderF 60 5 B b bs w) (e : Ext w w') : IsBuilderF 60 5 B b bs w' := by
  have key : ∀ p, BuilderAtF 60 5 B b p bs w → BuilderAtF 60 5 B b p bs w' := fun p h => by
    have hlt := h.lt
    obtain ⟨hB, v, hb, hown, hne⟩ := h
    refine ⟨hB, v, by rw [e.block b hlt]; exact hb, ?_, hne⟩
    refine hown.kept (row := none) ⟨e.os, e.tape, e.output, e.size, fun k hk _ => e.block k hk⟩ ?_
    cases hv : v.ownBlock with
    | none => exact .inl rfl
    | some x => exact .inr (by simp)
  exact h.imp (key _) (key _)
/-- What Fill holds while it writes. -/
structure FI (w0 : World) (l : List Lb) (b r pb pm : Nat) (L : List Sg) (w : World) : Prop where
  ext : Ext w0 w
  base : w0.heap.size ≤ r ∧ r < b ∧ w0.heap.size ≤ pm ∧ pm < b ∧ b < w.heap.size
  bld : Lib.IsBuilderF 60 5 b b (Lib.byteCells (outL (vOf l) L)) w
  fn : ∃ c fz, w.heap[pb]? = some (.cells c 52 fz) ∧ pb ≠ b ∧ cell w (some ⟨pb, 0, none⟩) 0 = some (.func (.func 27) #[] #[.pointer (some ⟨b, 0, none⟩)])
  mp : MapIs Value.string w r (mOf l)
  mc : cell w (some ⟨pm, 0, none⟩) 0 = some (.map (some r))
theorem FI.more {w0 w w' : World} {l : List Lb} {b r pb pm : Nat} {L : List Sg} (h : FI w0 l b r pb pm L w) (e : Ext w w') : FI w0 l b r pb pm L w' := by
  obtain ⟨c, fz, h1, h2, h3⟩ := h.fn
  have hb := h.base
  have := e.size
  exact ⟨h.ext.trans e, ⟨hb.1, hb.2.1, hb.2.2.1, hb.2.2.2.1, by omega⟩, bldF_ext h.bld e, ⟨c, fz, by rw [e.block pb (Array.getElem?_eq_some_iff.1 h1).1]; exact h1, h2, ext_cell e h3⟩, h.mp.ext e, ext_cell e h.mc⟩
theorem FI.same {w0 w : World} {l : List Lb} {b r pb pm : Nat} {L M : List Sg} (h : FI w0 l b r pb pm L w) (e : outL (vOf l) M = outL (vOf l) L) : FI w0 l b r pb pm M w :=
  ⟨h.ext, h.base, by rw [e]; exact h.bld, h.fn, h.mp, h.mc⟩
theorem byteCells_len (l : By) : (Lib.byteCells l).length = l.length := by simp [Lib.byteCells]
theorem put_k {w0 w : World} {l : List Lb} {b r pb pm : Nat} {L : List Sg} {g : Sg} (h : FI w0 l b r pb pm L w) (x : ByteArray) (hx : x.data.toList = pc (vOf l) g) (hs : x.size ≤ 70368744177664) :
    FnP Tryd.prog F_tmpl_Fill_1 #[.string x, .pointer (some ⟨b, 0, none⟩)] w fun v w' => v = .tuple #[] ∧ FI w0 l b r pb pm (L ++ [g]) w' := by
  have len := fun (w1 : World) (e1 : Ext w w1) => Tryd.Builder_Len_f b b _ w1 (bldF_ext h.bld e1)
  have eo := outL_app (vOf l) L g
  unfold putL at eo
  refine ok_tmpl_Fill_1 x (some ⟨b, 0, none⟩) w _ fun w0' h0 => ⟨fun args w => Tryd.call28 args w, (len w0' h0).mono fun e w1 ⟨he, hw⟩ => ⟨_, he, by rw [hw]; exact Ext.refl _, _, rfl, fun hle w3 h3 => ?_, fun hgt w3 h3 => ⟨rfl, (h.more h3).same ?_⟩⟩⟩
  · rw [byteCells_len] at hle
    have h3' := h.more h3
    refine ⟨fun args w => Tryd.call29 args w, (Tryd.Builder_WriteString_k b b _ x w3 h3'.bld (by rw [byteCells_len]; omega) (by have := h3'.base; omega)).mono fun e w4 ⟨he, hb, hbel, hoth⟩ => ⟨_, he, _, _, rfl, fun w7 h7 => ⟨rfl, FI.more ?_ h7⟩⟩⟩
    have eo' : outL (vOf l) (L ++ [g]) = outL (vOf l) L ++ x.data.toList := by rw [eo, if_pos (by omega), hx]
    obtain ⟨b1, b2, b3, b4, b5⟩ := h3'.base
    have e : Ext w0 w4 := Below.trans h3'.ext (hbel.mono (by omega))
    obtain ⟨c, fz, g1, g2, g3⟩ := h3'.fn
    have k1 : w4.heap[pb]? = some (.cells c 52 fz) := hoth pb _ g1 (by simpa using g2) (by simp)
    refine ⟨e, ⟨b1, b2, b3, b4, Nat.lt_of_lt_of_le b5 hbel.size⟩, .inr ?_, ⟨c, fz, k1, g2, ?_⟩, ?_, ?_⟩
    · rw [eo', show Lib.byteCells (outL (vOf l) L ++ x.data.toList) = Lib.byteCells (outL (vOf l) L) ++ Lib.strCells x by simp [Lib.byteCells, Lib.strCells]]
      exact hb
    · rw [← g3]
      exact World.cell?_of_block (by rw [add_block]; exact k1.trans g1.symm)
    · obtain ⟨es, ck, m1, m2⟩ := h3'.mp.es
      exact ⟨h3'.mp.nodup, es, ck, by rw [hbel.block r b2]; exact m1, m2⟩
    · exact below_cell hbel (fun a ha => by cases ha; exact b4) h3'.mc
  · rw [byteCells_len] at hgt
    rw [eo, if_neg (by omega)]
end Go.Proofs.YtjeboeahhhhbdaaDoor
