/- Several slices of the call's own, side by side: what they hold, and what a store, a new one, an added one turns. -/
import Derived.Test.YtkpkbbapaamflaaSxK
set_option linter.unusedVariables false
set_option linter.unusedSimpArgs false
namespace Go.Sx
open Go.RowKit
variable {P : Program}

structure HRow where
  e : TypeId
  s : Nat
  p : Option Addr
  n : Nat
  c : Nat
  xs : List Value

def HRow.ok (B : Nat) (w : World) (r : HRow) : Prop := Own B w r.e r.s r.p r.n r.c r.xs

/-- These rows are the call's own (made behind w0), no two of them in one block, none in a block of 'ns'; nothing that was there at w0 is turned. -/
structure Held (w0 : World) (ns : List Nat) (w : World) (rs : List HRow) : Prop where
  ext : Ext w0 w
  own : ∀ (i : Nat) (r : HRow), rs[i]? = some r → r.ok w0.heap.size w
  apart : ∀ (i j : Nat) (a b : HRow), i ≠ j → rs[i]? = some a → rs[j]? = some b → Apart a.p b.p
  free : ∀ (i : Nat) (r : HRow), rs[i]? = some r → ∀ b ∈ ns, ∀ x, r.p = some x → x.block ≠ b

theorem Held.nil {w0 w : World} {ns : List Nat} (h : Ext w0 w) : Held w0 ns w [] :=
  ⟨h, fun i r hr => by simp at hr, fun i j a b _ ha => by simp at ha, fun i r hr => by simp at hr⟩

theorem Held.get {w0 w : World} {ns : List Nat} {rs : List HRow} (h : Held w0 ns w rs) (i : Nat) {e : TypeId} {s : Nat} {p : Option Addr} {n c : Nat} {xs : List Value} (hi : rs[i]? = some ⟨e, s, p, n, c, xs⟩) : Own w0.heap.size w e s p n c xs := h.own i _ hi

theorem Held.to {w0 w w' : World} {ns : List Nat} {rs : List HRow} (h : Held w0 ns w rs) (he : Ext w w') : Held w0 ns w' rs :=
  ⟨h.ext.trans he, fun i r hr => (h.own i r hr).ext he, h.apart, h.free⟩

/-- One of them turned. -/
theorem Held.put {w0 w w' : World} {ns : List Nat} {rs : List HRow} (h : Held w0 ns w rs) (i : Nat) {r r' : HRow} (hi : rs[i]? = some r) (o : r'.ok w0.heap.size w') (g : Grew w w' r.p r'.p) (hf : ∀ b ∈ ns, b < w.heap.size) : Held w0 ns w' (rs.set i r') := by
  have hlt : i < rs.length := by
    rcases Nat.lt_or_ge i rs.length with h | h
    · exact h
    · rw [List.getElem?_eq_none h] at hi; cases hi
  have key : ∀ (j : Nat) (a : HRow), (rs.set i r')[j]? = some a → (j = i ∧ a = r') ∨ (j ≠ i ∧ rs[j]? = some a) := by
    intro j a ha
    rw [List.getElem?_set] at ha
    by_cases hij : i = j
    · subst hij
      rw [if_pos rfl, if_pos hlt] at ha
      exact .inl ⟨rfl, (Option.some.inj ha).symm⟩
    · rw [if_neg hij] at ha
      exact .inr ⟨fun h => hij h.symm, ha⟩
  have hap : ∀ (j : Nat) (a : HRow), j ≠ i → rs[j]? = some a → Apart a.p r'.p := fun j a hj ha => (h.apart j i a r hj ha hi).grew (h.own j a ha) g
  refine ⟨g.ext h.ext (h.own i r hi), fun j a ha => ?_, fun j k a b hjk ha hb => ?_, fun j a ha b hb x hx => ?_⟩
  · rcases key j a ha with ⟨h1, h2⟩ | ⟨hj, ha'⟩
    · rw [h2]; exact o
    · exact (h.own j a ha').st (h.apart j i a r hj ha' hi) g
  · rcases key j a ha with ⟨h1, h2⟩ | ⟨hj, ha'⟩
    · rcases key k b hb with ⟨h3, h4⟩ | ⟨hk, hb'⟩
      · exact absurd (h1.trans h3.symm) hjk
      · rw [h2]; exact (hap k b hk hb').symm
    · rcases key k b hb with ⟨h3, h4⟩ | ⟨hk, hb'⟩
      · rw [h4]; exact hap j a hj ha'
      · exact h.apart j k a b hjk ha' hb'
  · rcases key j a ha with ⟨h1, h2⟩ | ⟨hj, ha'⟩
    · subst h2
      rcases g.new with hn | hn
      · cases hp : r.p with
        | none => rw [hp, hx] at hn; simp [blk] at hn
        | some y =>
          rw [hp, hx] at hn
          simp only [blk, Option.map_some, Option.some.injEq] at hn
          rw [hn]
          exact h.free _ r hi b hb y hp
      · have := hn x hx
        have := hf b hb
        omega
    · exact h.free j a ha' b hb x hx

/-- A new one, ahead of all. -/
theorem Held.new {w0 w w' : World} {ns : List Nat} {rs : List HRow} (h : Held w0 ns w rs) {r : HRow} (o : r.ok w0.heap.size w') (he : Ext w w') (hn : ∀ a, r.p = some a → w.heap.size ≤ a.block) (hf : ∀ b ∈ ns, b < w.heap.size) : Held w0 ns w' (r :: rs) := by
  refine ⟨h.ext.trans he, fun j a ha => ?_, fun j k a b hjk ha hb => ?_, fun j a ha b hb x hx => ?_⟩
  · cases j with
    | zero => simp at ha; subst ha; exact o
    | succ j => exact (h.own j a (by simpa using ha)).ext he
  · have hnew : ∀ (j : Nat) (a : HRow), rs[j]? = some a → Apart a.p r.p := fun j a ha x y hx hy hxy => by
      have := (h.own j a ha).lt x hx
      have := hn y hy
      omega
    cases j with
    | zero =>
      simp at ha; subst ha
      cases k with
      | zero => exact absurd rfl hjk
      | succ k => exact (hnew k b (by simpa using hb)).symm
    | succ j =>
      cases k with
      | zero => simp at hb; subst hb; exact hnew j a (by simpa using ha)
      | succ k => exact h.apart j k a b (fun h => hjk (by omega)) (by simpa using ha) (by simpa using hb)
  · cases j with
    | zero =>
      simp at ha; subst ha
      have := hn x hx
      have := hf b hb
      omega
    | succ j => exact h.free j a (by simpa using ha) b hb x hx

theorem Held.new0 {w0 w w' : World} {ns : List Nat} {rs : List HRow} (h : Held w0 ns w rs) {e : TypeId} {s n c : Nat} {xs : List Value} (o : ∀ B, B ≤ w.heap.size → Own B w' e s (some ⟨w.heap.size, 0, none⟩) n c xs) (he : Ext w w') (hf : ∀ b ∈ ns, b < w.heap.size) : Held w0 ns w' (⟨e, s, some ⟨w.heap.size, 0, none⟩, n, c, xs⟩ :: rs) :=
  h.new (o _ h.ext.size) he (fun a ha => by obtain rfl := Option.some.inj ha; simp) hf

/-- A row that is turned nowhere but in one place. -/
theorem Held.store {w0 w : World} {ns : List Nat} {rs : List HRow} (h : Held w0 ns w rs) (i : Nat) {e : TypeId} {s : Nat} {p a : Option Addr} {n c : Nat} {xs vs : List Value} (hi : rs[i]? = some ⟨e, s, p, n, c, xs⟩) (off : Nat) {K : World → Prop} (ha : a = p.map (·.add off)) (hlen : off + vs.length ≤ xs.length) (hpos : vs ≠ [])
    (h1 : ∀ v ∈ vs, v.oneCell' = true) (hf : ∀ b ∈ ns, b < w.heap.size) (hk : ∀ w', Held w0 ns w' (rs.set i ⟨e, s, p, n, c, setAt xs off vs⟩) → Grew w w' p p → K w') : Store w a vs ns K :=
  store_own (h.get i hi) ha hlen hpos h1 (fun b hb x hx => h.free i _ hi b hb x hx) fun w' o g => hk w' (h.put i hi o g hf) g

theorem Held.store_int {w0 w : World} {ns : List Nat} {rs : List HRow} (h : Held w0 ns w rs) (i : Nat) {e : TypeId} {p : Option Addr} {n c : Nat} {k : IntKind} {xs : List Int} (hi : rs[i]? = some ⟨e, 1, p, n, c, xs.map (.int k)⟩) {j x : Int} {K : World → Prop} (h0 : 0 ≤ j) (hj : j < xs.length)
    (hf : ∀ b ∈ ns, b < w.heap.size) (hk : ∀ w', Held w0 ns w' (rs.set i ⟨e, 1, p, n, c, (xs.set j.toNat x).map (.int k)⟩) → Grew w w' p p → K w') : Store w (pIdx p j 1) [.int k x] ns K :=
  Go.Sx.store_int (h.get i hi) h0 hj (fun b hb x hx => h.free i _ hi b hb x hx) fun w' o g => hk w' (h.put i hi o g hf) g

theorem Held.store_bool {w0 w : World} {ns : List Nat} {rs : List HRow} (h : Held w0 ns w rs) (i : Nat) {e : TypeId} {p : Option Addr} {n c : Nat} {xs : List Bool} (hi : rs[i]? = some ⟨e, 1, p, n, c, xs.map .bool⟩) {j : Int} {x : Bool} {K : World → Prop} (h0 : 0 ≤ j) (hj : j < xs.length)
    (hf : ∀ b ∈ ns, b < w.heap.size) (hk : ∀ w', Held w0 ns w' (rs.set i ⟨e, 1, p, n, c, (xs.set j.toNat x).map .bool⟩) → Grew w w' p p → K w') : Store w (pIdx p j 1) [.bool x] ns K :=
  Go.Sx.store_bool (h.get i hi) h0 hj (fun b hb x hx => h.free i _ hi b hb x hx) fun w' o g => hk w' (h.put i hi o g hf) g

/-- One element of a row of structs. -/
theorem Held.store_rec {w0 w : World} {ns : List Nat} {rs : List HRow} (h : Held w0 ns w rs) (i : Nat) {α : Type} {enc : α → List Value} {e : TypeId} {s : Nat} {p : Option Addr} {n c : Nat} {L : List α} (hs : ∀ x, (enc x).length = s) (hs0 : 0 < s) (h1 : ∀ x, ∀ u ∈ enc x, u.oneCell' = true)
    (hi : rs[i]? = some ⟨e, s, p, n, c, L.flatMap enc⟩) {j : Int} {x : α} {K : World → Prop} (h0 : 0 ≤ j) (hj : j < L.length)
    (hf : ∀ b ∈ ns, b < w.heap.size) (hk : ∀ w', Held w0 ns w' (rs.set i ⟨e, s, p, n, c, (L.set j.toNat x).flatMap enc⟩) → Grew w w' p p → K w') : Store w (pIdx p j s) (enc x) ns K := by
  have hj' : j.toNat < L.length := by omega
  have hb : (j.toNat + 1) * s ≤ L.length * s := Nat.mul_le_mul_right _ hj'
  rw [Nat.add_mul] at hb
  refine h.store i hi (j.toNat * s) rfl (by rw [hs, recs_len hs]; omega) (fun hn => by have := hs x; rw [hn] at this; simp at this; omega) (h1 x) hf fun w' hR g => hk w' ?_ g
  rwa [recs_set hs L _ x hj'] at hR

/-- Some of them, in whatever order. -/
theorem Held.pick {w0 w : World} {ns : List Nat} {rs : List HRow} (h : Held w0 ns w rs) (is : List Nat) (hn : is.Nodup) (hl' : (is.all fun i => decide (i < rs.length)) = true) : Held w0 ns w (is.filterMap fun i => rs[i]?) := by
  have hl : ∀ i ∈ is, i < rs.length := fun i hi => by simpa using List.all_eq_true.1 hl' i hi
  clear hl'
  have hmap : (is.filterMap fun i => rs[i]?) = is.attach.map fun i => rs[i.1]'(hl i.1 i.2) := by
    clear hn
    induction is with
    | nil => rfl
    | cons i is ih =>
      have := hl i (List.mem_cons_self ..)
      rw [List.filterMap_cons, List.getElem?_eq_getElem this]
      simp only [List.attach_cons, List.map_cons, List.map_map]
      rw [ih (fun j hj => hl j (List.mem_cons_of_mem _ hj))]
      rfl
  have key : ∀ (j : Nat) (r : HRow), (is.filterMap fun i => rs[i]?)[j]? = some r → ∃ i, is[j]? = some i ∧ rs[i]? = some r := by
    intro j r hr
    rw [hmap, List.getElem?_map, Option.map_eq_some_iff] at hr
    obtain ⟨i, hi, rfl⟩ := hr
    refine ⟨i.1, ?_, List.getElem?_eq_getElem _⟩
    have := congrArg (Option.map Subtype.val) hi
    rw [← List.getElem?_map, List.attach_map_subtype_val] at this
    simpa using this
  refine ⟨h.ext, fun j r hr => ?_, fun j k a b hjk ha hb => ?_, fun j r hr => ?_⟩
  · obtain ⟨i, _, hi⟩ := key j r hr
    exact h.own i r hi
  · obtain ⟨i, hi, ha⟩ := key j a ha
    obtain ⟨i', hi', hb⟩ := key k b hb
    refine h.apart i i' a b (fun hii => hjk ?_) ha hb
    subst hii
    have hj : j < is.length := by
      rcases Nat.lt_or_ge j is.length with h | h
      · exact h
      · rw [List.getElem?_eq_none h] at hi; cases hi
    exact (List.getElem?_inj hj hn).1 (hi.trans hi'.symm)
  · obtain ⟨i, _, hi⟩ := key j r hr
    exact h.free i r hi

section make
variable {w0 w : World} {ns : List Nat} {rs : List HRow}
theorem Held.make {t e : TypeId} {s b : Nat} {z : Value} (he : slEl P t = some (e, s, b, z)) (h : Held w0 ns w rs) {kl kc : IntKind} {n : Int} (h0 : 0 ≤ n) (hb : b * n.toNat ≤ 281474976710656) (h63 : n ≤ 9223372036854775807) (hf : ∀ b ∈ ns, b < w.heap.size)
    {K : Option Addr → Nat → Nat → World → Prop} (hk : ∀ q w', Held w0 ns w' (⟨e, s, q, n.toNat, n.toNat, (madeCells z.cells (n.toNat * s)).toList⟩ :: rs) → Ext w w' → K q n.toNat n.toNat w') :
    Run P (.makeSlice t (.int kl n) (.int kc n)) w fun v w' => Ext w w' ∧ ∃ q : Option Addr, ∃ l : Nat, ∃ c : Nat, v = .slice q l c ∧ K q l c w' :=
  run_mk he h0 hb h63 fun w' o e' => ⟨e', _, _, _, rfl, hk _ w' (h.new0 o e' hf) e'⟩
theorem Held.mk_ints {t e : TypeId} {b : Nat} {k : IntKind} (he : slEl P t = some (e, 1, b, .int k 0)) (h : Held w0 ns w rs) {kl kc : IntKind} {n : Int} (h0 : 0 ≤ n) (hb : b * n.toNat ≤ 281474976710656) (h63 : n ≤ 9223372036854775807) (hf : ∀ b ∈ ns, b < w.heap.size)
    {K : Option Addr → Nat → Nat → World → Prop} (hk : ∀ q w', Held w0 ns w' (⟨e, 1, q, n.toNat, n.toNat, (List.replicate n.toNat (0 : Int)).map (.int k)⟩ :: rs) → Ext w w' → K q n.toNat n.toNat w') :
    Run P (.makeSlice t (.int kl n) (.int kc n)) w fun v w' => Ext w w' ∧ ∃ q : Option Addr, ∃ l : Nat, ∃ c : Nat, v = .slice q l c ∧ K q l c w' :=
  Go.Sx.mk_ints he h0 hb h63 fun w' o e' => ⟨e', _, _, _, rfl, hk _ w' (h.new0 o e' hf) e'⟩
theorem Held.mk_bools {t e : TypeId} {b : Nat} (he : slEl P t = some (e, 1, b, .bool false)) (h : Held w0 ns w rs) {kl kc : IntKind} {n : Int} (h0 : 0 ≤ n) (hb : b * n.toNat ≤ 281474976710656) (h63 : n ≤ 9223372036854775807) (hf : ∀ b ∈ ns, b < w.heap.size)
    {K : Option Addr → Nat → Nat → World → Prop} (hk : ∀ q w', Held w0 ns w' (⟨e, 1, q, n.toNat, n.toNat, (List.replicate n.toNat false).map .bool⟩ :: rs) → Ext w w' → K q n.toNat n.toNat w') :
    Run P (.makeSlice t (.int kl n) (.int kc n)) w fun v w' => Ext w w' ∧ ∃ q : Option Addr, ∃ l : Nat, ∃ c : Nat, v = .slice q l c ∧ K q l c w' :=
  Go.Sx.mk_bools he h0 hb h63 fun w' o e' => ⟨e', _, _, _, rfl, hk _ w' (h.new0 o e' hf) e'⟩
theorem made_recs {α : Type} {enc : α → List Value} {s : Nat} {z : Value} {x : α} (hz : z.cells.toList = enc x) (hs : (enc x).length = s) (h0 : 0 < s) (n : Nat) : (madeCells z.cells (n * s)).toList = (List.replicate n x).flatMap enc := by
  have hsz : z.cells.size = s := by rw [← Array.length_toList, hz, hs]
  unfold madeCells
  induction n with
  | zero => simp
  | succ n ih =>
    rw [List.replicate_succ', List.flatMap_append, ← ih, Nat.succ_mul]
    simp only [Array.toList_map, Array.toList_range, List.range_add, List.map_append, List.map_map, List.flatMap_cons, List.flatMap_nil, List.append_nil]
    congr 1
    rw [← hz]
    apply List.ext_getElem
    · simp [hsz]
    · intro i h1 h2
      simp only [List.length_map, List.length_range] at h1
      simp only [List.getElem_map, List.getElem_range, Function.comp_apply, hsz, Nat.mul_add_mod_of_lt, Nat.mul_comm n s, Nat.mul_add_mod, Nat.mod_eq_of_lt h1]
      rw [getElem!_pos z.cells i (by omega)]
      simp
theorem Held.mk_recs {α : Type} {enc : α → List Value} {x : α} {t e : TypeId} {s b : Nat} {z : Value} (he : slEl P t = some (e, s, b, z)) (hz : z.cells.toList = enc x) (hs : (enc x).length = s) (hs0 : 0 < s) (h : Held w0 ns w rs) {kl kc : IntKind} {n : Int} (h0 : 0 ≤ n) (hb : b * n.toNat ≤ 281474976710656) (h63 : n ≤ 9223372036854775807) (hf : ∀ b ∈ ns, b < w.heap.size)
    {K : Option Addr → Nat → Nat → World → Prop} (hk : ∀ q w', Held w0 ns w' (⟨e, s, q, n.toNat, n.toNat, (List.replicate n.toNat x).flatMap enc⟩ :: rs) → Ext w w' → K q n.toNat n.toNat w') :
    Run P (.makeSlice t (.int kl n) (.int kc n)) w fun v w' => Ext w w' ∧ ∃ q : Option Addr, ∃ l : Nat, ∃ c : Nat, v = .slice q l c ∧ K q l c w' :=
  h.make he h0 hb h63 hf fun q w' hR e' => hk q w' (by rw [made_recs hz hs hs0] at hR; exact hR) e'
theorem Held.new_row {t : TypeId} {vs : List Value} (h : Held w0 ns w rs) (h1 : ∀ v ∈ vs, v.oneCell' = true) (hf : ∀ b ∈ ns, b < w.heap.size) {K : Option Addr → World → Prop}
    (hk : ∀ p w', Held w0 ns w' (⟨t, vs.length, p, 1, 1, vs⟩ :: rs) → Ext w w' → K p w') : New w t vs K :=
  new_own h1 fun w' o e => hk _ w' (h.new0 o e hf) e
end make

/-- An integer of memory, as a number. -/
def readI (w : World) (p : Option Addr) (i : Nat) : Int := match cell w p i with | some (.int _ x) => x | _ => 0
theorem readI_eq {w : World} {p : Option Addr} {i : Nat} {k : IntKind} {x : Int} (h : cell w p i = some (.int k x)) : readI w p i = x := by unfold readI; rw [h]
theorem countP_lt {α : Type} {p q : α → Bool} : ∀ {l : List α}, (∀ x ∈ l, p x = true → q x = true) → ∀ {x : α}, x ∈ l → q x = true → p x = false → l.countP p < l.countP q
  | [], _, x, hx, _, _ => by cases hx
  | a :: l, h, x, hx, hq, hp => by
    have hle : l.countP p ≤ l.countP q := List.countP_mono_left fun y hy => h y (List.mem_cons_of_mem _ hy)
    rw [List.countP_cons, List.countP_cons]
    rcases List.mem_cons.1 hx with rfl | hx
    · rw [hq, hp]; simp; omega
    · have ih := countP_lt (fun y hy => h y (List.mem_cons_of_mem _ hy)) hx hq hp
      have := h a (List.mem_cons_self ..)
      cases ha : p a <;> cases hb : q a <;> simp_all <;> omega
theorem ext_nil {w w' : World} (h : Ext w w') : ExtB [] [] w w' := ⟨⟨h.os, h.tape, h.output, h.size, fun k hk _ => h.block k hk⟩, fun b hb => by cases hb⟩
end Go.Sx
