/- Needs as texts: what the library answers; parts, Check, text, Text. -/
import Derived.Test.YtenppnomdejmlaaGreatDoorNtP
import Derived.Test.YtenppnomdejmlaaGreatDoorSxF
import Derived.Laws.Slices
set_option linter.unusedVariables false
set_option linter.unusedSimpArgs false
namespace Go.Proofs.YtenppnomdejmlaaGreatDoor
open Go.Sx Go.RowKit

def isErr (v : Value) : Prop := v = .nilIface ∨ ∃ te pe, v = .iface te pe
/-- The tables, and the library's variables. -/
structure GB (w : World) : Prop where
  pow : Lib.TabIs Tryz.prog w "internal/strconv.uint64pow10" .u64 Lib.pow10Tab
  maxLen : ∃ m, cell w (some (⟨2, 0, none⟩ : Addr)) 0 = some (.int .i64 m)
  eSyn : ∃ v, cell w (some (⟨0, 0, none⟩ : Addr)) 0 = some v ∧ isErr v
  eRan : ∃ v, cell w (some (⟨1, 0, none⟩ : Addr)) 0 = some v ∧ isErr v
theorem tab_ext {P : Program} {w w' : World} {name : String} {k : IntKind} {zs : List Int} (h : Lib.TabIs P w name k zs) (e : Ext w w') : Lib.TabIs P w' name k zs := by
  unfold Lib.TabIs World.var? at *
  cases hg : P.globalNamed name with
  | none => simp [hg] at h
  | some g =>
    simp only [hg, Option.bind_some] at h ⊢
    have hlt : g < w.heap.size := by
      rcases Nat.lt_or_ge g w.heap.size with h' | h'
      · exact h'
      · rw [Array.getElem?_eq_none h'] at h; simp at h
    rw [e.block g hlt]; exact h
theorem GB.ext {w w' : World} (g : GB w) (e : Ext w w') : GB w' :=
  ⟨tab_ext g.pow e, by obtain ⟨m, h⟩ := g.maxLen; exact ⟨m, ext_cell e h⟩, by obtain ⟨v, h, k⟩ := g.eSyn; exact ⟨v, ext_cell e h, k⟩, by obtain ⟨v, h, k⟩ := g.eRan; exact ⟨v, ext_cell e h, k⟩⟩
theorem cell0 {w : World} {b : Nat} {v : Value} (h : cell w (some (⟨b, 0, none⟩ : Addr)) 0 = some v) : w.cell? ⟨b, 0, none⟩ = some v := by simpa [cell, add_zero] using h
theorem below_grow {w : World} {k : Nat} {os : Array Obj} : Ext w (Go.Sort.grow (w.drewN k) os) :=
  ⟨rfl, rfl, rfl, by simp [Go.Sort.grow], fun b hb => Go.Sort.heap_grow_old (w.drewN k) os hb⟩
theorem drew_ext {w : World} {n : Nat} : Ext w (w.drewN n) := ⟨rfl, rfl, rfl, Nat.le_refl _, fun _ _ => rfl⟩

theorem FormatInt_k (n : Int) (h : -9223372036854775808 ≤ n ∧ n ≤ 9223372036854775807) (w : World) (g : GB w) : FnP Tryz.prog F_strconv_FormatInt #[.int .i64 n, .int .i64 10] w fun v w' => Ext w w' ∧ v = .string (ofL (Lib.itoa n)) :=
  ⟨fun args w => Tryz.call53 args w, (Tryz.strconv_FormatInt_10 n h.1 h.2 w g.pow).mono fun e w' ⟨he, k, os, hw⟩ => ⟨_, he, by rw [hw]; exact below_grow, rfl⟩⟩

theorem ParseInt_k (s : ByteArray) (hs : s.size ≤ 281474976710656) (w : World) (g : GB w) : FnP Tryz.prog F_strconv_ParseInt #[.string s, .int .i64 10, .int .i64 64] w fun v w' => Ext w w' ∧ ∃ (n : Int) (ev : Value), v = .tuple #[.int .i64 n, ev] ∧
    ((ev = .nilIface ∧ Lib.parseIntB 64 s.data.toList = .ok n) ∨ ((∃ a b, ev = .iface a b) ∧ ∀ m, Lib.parseIntB 64 s.data.toList ≠ .ok m)) := by
  have en : Enters Tryz.prog F_strconv_ParseInt := fun args w => Tryz.call47 args w
  cases hp : Lib.parseIntB 64 s.data.toList with
  | ok v =>
    refine ⟨en, (Tryz.strconv_ParseInt_10_at64_ok s (by omega) v hp w).mono fun e w' ⟨he, hw⟩ => ⟨_, he, ?_, v, .nilIface, rfl, .inl ⟨rfl, rfl⟩⟩⟩
    rcases hw with rfl | ⟨t, rfl⟩
    · exact Ext.refl _
    · exact Lib.bytesWorld_below w 5 t
  | range =>
    obtain ⟨ev, h1, h2⟩ := g.eRan
    exact ⟨en, (Tryz.strconv_ParseInt_10_at64_range s hs hp ev w (cell0 h1) h2).mono fun e w' ⟨N, he, _, _, hb⟩ => ⟨_, he, hb, _, _, rfl, .inr ⟨⟨_, _, rfl⟩, fun m h => by cases h⟩⟩⟩
  | _ =>
    obtain ⟨ev, h1, h2⟩ := g.eSyn
    exact ⟨en, (Tryz.strconv_ParseInt_10_at64_syntax s hs hp ev w (cell0 h1) h2).mono fun e w' ⟨N, he, _, _, hb⟩ => ⟨_, he, hb, _, _, rfl, .inr ⟨⟨_, _, rfl⟩, fun m h => by cases h⟩⟩⟩
theorem parse_top {l : List UInt8} {n : Int} (h : Lib.parseIntB 64 l = .ok n) (hn : 0 < n) : n ≤ 9223372036854775807 := by
  unfold Lib.parseIntB at h
  split at h
  · cases h
  · simp only at h
    split at h
    · cases h
    · cases h
    · rename_i u _
      split at h
      · cases h
      · rename_i h1
        split at h
        · cases h
        · injection h with h
          split at h
          · omega
          · rename_i h2
            have e : (2 : Nat) ^ (64 - 1) = 9223372036854775808 := by decide
            rw [e] at h1
            omega

theorem equalIn_nil {P : Program} (d : Nat) {t : TypeId} {m : Array (String × TypeId)} (ht : P.underlying t = some (.interface m)) (w : World) : (Op.equalIn (d + 1) t .nilIface .nilIface).run P w = .ok true w := by
  simp only [Op.equalIn, Sem.run_bind, run_underlying ht, Result.andThen_ok, Sem.run_pure]
theorem equalIn_err {P : Program} (d : Nat) {t : TypeId} {m : Array (String × TypeId)} (ht : P.underlying t = some (.interface m)) (a : TypeId) (b : Value) (w : World) : (Op.equalIn (d + 1) t (.iface a b) .nilIface).run P w = .ok false w := by
  simp only [Op.equalIn, Sem.run_bind, run_underlying ht, Result.andThen_ok, Sem.run_pure]
theorem ne_nil {P : Program} {t : TypeId} {m : Array (String × TypeId)} (ht : P.underlying t = some (.interface m)) {v : Value} (hv : isErr v) {cx : Bool} {w : World} {K : Value → World → Prop} (hk : ∀ b : Bool, (b = false ↔ v = .nilIface) → K (.bool b) w) : Run P (.eq .neq t cx true v .nilIface) w K := by
  have hb : ∀ x : Value, ∀ r : Bool, (Op.equal t x .nilIface).run P w = .ok r w → (eqGuard .neq t (opd cx) (opd true) x .nilIface).run P w = .ok () w → binOp .neq t x .nilIface = (do pure (.bool (!(← Op.equal t x .nilIface)))) → (MC.sem (.eq .neq t cx true x .nilIface)).run P w = .ok (.bool (!r)) w := fun x r h1 h2 h3 => by
    show (do eqGuard .neq t (opd cx) (opd true) x .nilIface; binOp .neq t x .nilIface : Sem Value).run P w = _
    rw [Sem.run_bind, h2, Result.andThen_ok, h3, Sem.run_bind, h1, Result.andThen_ok, Sem.run_pure]
  rcases hv with rfl | ⟨a, b, rfl⟩
  · exact ⟨_, w, hb _ true (equalIn_nil 9999 ht w) (by cases cx <;> rfl) rfl, hk false (by simp)⟩
  · exact ⟨_, w, hb _ false (equalIn_err 9999 ht a b w) (by cases cx <;> rfl) rfl, hk true (by simp)⟩
def isIfc (P : Program) (t : TypeId) : Bool := match P.underlying t with | some (.interface _) => true | _ => false
theorem ne_nilB {P : Program} {t : TypeId} (ht : isIfc P t = true) {v : Value} (hv : isErr v) {cx : Bool} {w : World} {K : Value → World → Prop} (hk : ∀ b : Bool, (b = false ↔ v = .nilIface) → K (.bool b) w) : Run P (.eq .neq t cx true v .nilIface) w K := by
  unfold isIfc at ht
  split at ht
  · rename_i m h; exact ne_nil h hv hk
  · cases ht

theorem Split_k (c : UInt8) (s : ByteArray) (hs : s.size < 4294967281) (w : World) (g : GB w) : FnP Tryz.prog F_strings_Split #[.string s, .string (one c)] w fun v w' => Ext w w' ∧ v = .slice (some ⟨w.heap.size, 0, none⟩) (Lib.countB s (one c) + 1) (Lib.countB s (one c) + 1) ∧
    Cells w' (some ⟨w.heap.size, 0, none⟩) ((Lib.splitB (one c) 0 (Lib.countB s (one c)) s).map Value.string) ∧ w.heap.size < w'.heap.size := by
  obtain ⟨m, hm⟩ := g.maxLen
  refine ⟨fun args w => Tryz.call27 args w, (Tryz.strings_Split s (one c) m w hs (cell0 hm) (Nat.le_refl 1)).mono fun e w' ⟨he, hw⟩ => ⟨_, he, ?_, rfl, fun i p hp => ?_, ?_⟩⟩
  · rw [hw]; exact Below.alloc (Below.refl _ _) (Nat.le_refl _) _
  · rw [hw]
    show World.cell? _ _ = _
    have : (Addr.add ⟨w.heap.size, 0, none⟩ i) = ⟨w.heap.size, i, none⟩ := by simp [Addr.add]; intro h; exact h.symm
    rw [this]
    rw [World.cell?_alloc_mark]
    simpa using hp
  · rw [hw]; show w.heap.size < (w.heap.push _).size; rw [Array.size_push]; omega
theorem Cut_k (c : UInt8) (s : ByteArray) (hs : s.size < 4294967281) (w : World) (g : GB w) : FnP Tryz.prog F_strings_Cut #[.string s, .string (one c)] w fun v w' => Ext w w' ∧ v = .tuple #[.string (ofL (Lib.cut s.data.toList [c]).1), .string (ofL (Lib.cut s.data.toList [c]).2.1), .bool (Lib.cut s.data.toList [c]).2.2] := by
  obtain ⟨m, hm⟩ := g.maxLen
  exact ⟨fun args w => Tryz.call46 args w, (Tryz.strings_Cut s (one c) m w hs (cell0 hm)).mono fun e w' ⟨he, n, hw⟩ => ⟨_, he, by rw [hw]; exact drew_ext, rfl⟩⟩
theorem Join_k (L : List (List UInt8)) (c : UInt8) (q : Option Addr) (m d B : Nat) (e : TypeId) (w : World) (o : Own B w e 1 q m d (L.map fun l => Value.string (ofL l))) (hne : L ≠ []) (hlen : (Lib.join L [c]).length ≤ 140737488355327) :
    FnP Tryz.prog F_strings_Join #[.slice q m d, .string (one c)] w fun v w' => Ext w w' ∧ v = .string (ofL (Lib.join L [c])) := by
  have hm := o.leni
  have hmd := o.le
  have hcl := o.cells
  have hlt := o.lt
  obtain ⟨b, rfl⟩ : ∃ b, q = some ⟨b, 0, none⟩ := by
    rcases o.2 with ⟨h, _⟩ | ⟨g, cap, cur, hv, _⟩
    · have : L = [] := by
        simp at h
        have : L.length = 0 := by omega
        exact List.eq_nil_of_length_eq_zero this
      exact absurd this hne
    · injection hv with h1
      exact ⟨g, h1⟩
  have hl : L.length ≤ 140737488355328 := by
    have key : ∀ (L : List (List UInt8)) (x : List UInt8), L.length ≤ (Lib.join (x :: L) [c]).length := by
      intro L x
      rw [Lib.join_cons, List.length_append, Lib.joinTail_length, show ([c] : List UInt8).length = 1 from rfl]; omega
    cases L with
    | nil => exact absurd rfl hne
    | cons x L =>
      have := key L x
      rw [List.length_cons]; omega
  have e1 : (L.map ofL).map (·.data.toList) = L := by
    rw [List.map_map]
    simp [Function.comp_def, ofL]
  have key := Tryz.strings_Join b 0 d (L.map ofL) (one c) w (fun j x hx => by
    rw [List.getElem?_map, Option.map_eq_some_iff] at hx
    obtain ⟨l, hl, rfl⟩ := hx
    have := hcl j (.string (ofL l)) (by rw [List.getElem?_map, hl]; rfl)
    simp only [cell, Option.bind_some] at this
    have ha : (Addr.add ⟨b, 0, none⟩ j) = ⟨b, 0 + j, none⟩ := by simp [Addr.add]; intro h; exact h.symm
    rwa [ha] at this) (hlt _ rfl).2 (by simpa using hl) (by rw [List.length_map, hm]; exact hmd.1) (by rw [e1]; show (Lib.join L [c]).length ≤ _; omega)
  rw [List.length_map, hm, e1] at key
  exact ⟨fun args w => Tryz.call24 args w, key.mono fun e w' ⟨he, hw⟩ => ⟨_, he, hw, rfl⟩⟩
end Go.Proofs.YtenppnomdejmlaaGreatDoor
