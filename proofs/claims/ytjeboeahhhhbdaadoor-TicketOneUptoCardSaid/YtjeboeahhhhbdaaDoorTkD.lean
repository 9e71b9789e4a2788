/- Tickets are opened: what ParseInt, Split and Trim tell, and what Open answers. -/
import Derived.Test.YtjeboeahhhhbdaaDoorTkC
import Derived.Shelf.Strings.SlTrimAscii
import Derived.Lib.AtoiErrMem
import Derived.Lib.Split
import Derived.Lib.CountLaws
set_option linter.unusedVariables false
set_option linter.unusedSimpArgs false
namespace Go.Proofs.YtjeboeahhhhbdaaDoor
open Go.Sx Go.RowKit

def isErr (v : Value) : Prop := v = .nilIface ∨ ∃ te pe, v = .iface te pe
/-- The tables, and the library's variables. -/
structure GB (w : World) : Prop extends GA w where
  maxLen : ∃ m, cell w (some (⟨0, 0, none⟩ : Addr)) 0 = some (.int .i64 m)
  eSyn : ∃ v, cell w (some (⟨2, 0, none⟩ : Addr)) 0 = some v ∧ isErr v
  eRan : ∃ v, cell w (some (⟨3, 0, none⟩ : Addr)) 0 = some v ∧ isErr v
theorem GB.ext {w w' : World} (g : GB w) (e : Ext w w') : GB w' :=
  ⟨g.toGA.ext e, by obtain ⟨m, h⟩ := g.maxLen; exact ⟨m, ext_cell e h⟩, by obtain ⟨v, h, k⟩ := g.eSyn; exact ⟨v, ext_cell e h, k⟩, by obtain ⟨v, h, k⟩ := g.eRan; exact ⟨v, ext_cell e h, k⟩⟩
theorem cell0 {w : World} {b : Nat} {v : Value} (h : cell w (some (⟨b, 0, none⟩ : Addr)) 0 = some v) : w.cell? ⟨b, 0, none⟩ = some v := by simpa [cell, add_zero] using h

theorem ParseInt_k (s : ByteArray) (hs : s.size ≤ 281474976710656) (w : World) (g : GB w) : FnP Tryd.prog F_strconv_ParseInt #[.string s, .int .i64 10, .int .i64 64] w fun v w' => Ext w w' ∧ ∃ (n : Int) (ev : Value), v = .tuple #[.int .i64 n, ev] ∧
    ((ev = .nilIface ∧ Lib.parseIntB 64 s.data.toList = .ok n) ∨ ((∃ a b, ev = .iface a b) ∧ ∀ m, Lib.parseIntB 64 s.data.toList ≠ .ok m)) := by
  have en : Enters Tryd.prog F_strconv_ParseInt := fun args w => Tryd.call39 args w
  cases hp : Lib.parseIntB 64 s.data.toList with
  | ok v =>
    refine ⟨en, (Tryd.strconv_ParseInt_10_at64_ok s (by omega) v hp w).mono fun e w' ⟨he, hw⟩ => ⟨_, he, ?_, v, .nilIface, rfl, .inl ⟨rfl, rfl⟩⟩⟩
    rcases hw with rfl | ⟨t, rfl⟩
    · exact Ext.refl _
    · exact Lib.bytesWorld_below w 5 t
  | range =>
    obtain ⟨ev, h1, h2⟩ := g.eRan
    exact ⟨en, (Tryd.strconv_ParseInt_10_at64_range s hs hp ev w (cell0 h1) h2).mono fun e w' ⟨N, he, _, _, hb⟩ => ⟨_, he, hb, _, _, rfl, .inr ⟨⟨_, _, rfl⟩, fun m h => by cases h⟩⟩⟩
  | _ =>
    obtain ⟨ev, h1, h2⟩ := g.eSyn
    exact ⟨en, (Tryd.strconv_ParseInt_10_at64_syntax s hs hp ev w (cell0 h1) h2).mono fun e w' ⟨N, he, _, _, hb⟩ => ⟨_, he, hb, _, _, rfl, .inr ⟨⟨_, _, rfl⟩, fun m h => by cases h⟩⟩⟩

theorem equalIn_nil {P : Program} (d : Nat) {t : TypeId} {m : Array (String × TypeId)} (ht : P.underlying t = some (.interface m)) (w : World) : (Op.equalIn (d + 1) t .nilIface .nilIface).run P w = .ok true w := by
  simp only [Op.equalIn, Sem.run_bind, run_underlying ht, Result.andThen_ok, Sem.run_pure]
theorem equalIn_err {P : Program} (d : Nat) {t : TypeId} {m : Array (String × TypeId)} (ht : P.underlying t = some (.interface m)) (a : TypeId) (b : Value) (w : World) : (Op.equalIn (d + 1) t (.iface a b) .nilIface).run P w = .ok false w := by
  simp only [Op.equalIn, Sem.run_bind, run_underlying ht, Result.andThen_ok, Sem.run_pure]
theorem ne_nil {P : Program} {t : TypeId} {m : Array (String × TypeId)} (ht : P.underlying t = some (.interface m)) {v : Value} (hv : isErr v) {cx : Bool} {w : World} {K : Value → World → Prop} (hk : ∀ b : Bool, (b = false ↔ v = .nilIface) → K (.bool b) w) : Run P (.eq .neq t cx true v .nilIface) w K := by
  have hb : ∀ x : Value, ∀ r : Bool, (Op.equal t x .nilIface).run P w = .ok r w → (eqGuard .neq t (opd cx) (opd true) x .nilIface).run P w = .ok () w → binOp .neq t x .nilIface = (do pure (.bool (!(← Op.equal t x .nilIface)))) → (MC.sem (.eq .neq t cx true x .nilIface)).run P w = .ok (.bool (!r)) w := fun x r h1 h2 h3 => by
    show (do eqGuard .neq t (opd cx) (opd true) x .nilIface; binOp .neq t x .nilIface : Sem Value).run P w = _
    rw [Sem.run_bind, h2, Result.andThen_ok, h3, Sem.run_bind, h1, Result.andThen_ok, Sem.run_pure]
  rcases hv with rfl | ⟨a, b, rfl⟩
  · exact ⟨_, w, hb _ true (equalIn_nil 9999 ht w) (by cases cx <;> rfl) rfl, hk false (by simp)⟩
  · exact ⟨_, w, hb _ false (equalIn_err 9999 ht a b w) (by cases cx <;> rfl) rfl, hk true (by simp)⟩

def isIfc (P : Program) (t : TypeId) : Bool := match P.underlying t with | some (.interface _) => true | _ => false
theorem ne_nilB {P : Program} {t : TypeId} (ht : isIfc P t = true) {v : Value} (hv : isErr v) {cx : Bool} {w : World} {K : Value → World → Prop} (hk : ∀ b : Bool, (b = false ↔ v = .nilIface) → K (.bool b) w) : Run P (.eq .neq t cx true v .nilIface) w K := by
  unfold isIfc at ht
  split at ht
  · rename_i m h; exact ne_nil h hv hk
  · cases ht
/-! ### Split at dots -/
def dot : ByteArray := ⟨#[46]⟩
theorem idx_hit : ∀ {a : List UInt8} (b : List UInt8), (46 : UInt8) ∉ a → Lib.index (a ++ 46 :: b) [46] = a.length
  | [], b, _ => by rw [Lib.index_one]; rfl
  | x :: a, b, h => by
    have hx : ¬ x = 46 := fun he => h (by rw [he]; exact List.mem_cons_self ..)
    have := idx_hit (a := a) b fun hm => h (List.mem_cons_of_mem _ hm)
    rw [Lib.index_one] at this ⊢
    simp only [List.cons_append, Lib.indexByte, this, beq_iff_eq, hx, if_false]
    rw [if_neg (by omega)]
    simp
theorem idx_miss : ∀ {a : List UInt8}, (46 : UInt8) ∉ a → Lib.index a [46] = -1
  | [], _ => rfl
  | x :: a, h => by
    have hx : ¬ x = 46 := fun he => h (by rw [he]; exact List.mem_cons_self ..)
    have := idx_miss (a := a) fun hm => h (List.mem_cons_of_mem _ hm)
    rw [Lib.index_one] at this ⊢
    simp only [Lib.indexByte, this, beq_iff_eq, hx, if_false, if_true]
theorem ext_front (a b : List UInt8) : (ofL (a ++ 46 :: b)).extract 0 (a.length + 0) = ofL a := by
  rw [← ofL_of ((ofL (a ++ 46 :: b)).extract 0 (a.length + 0))]
  congr 1
  simp [ofL]
theorem ext_back (a b : List UInt8) : (ofL (a ++ 46 :: b)).extract (a.length + dot.size) (ofL (a ++ 46 :: b)).size = ofL b := by
  rw [← ofL_of ((ofL (a ++ 46 :: b)).extract _ _)]
  congr 1
  have hd : dot.size = 1 := rfl
  rw [hd, ofL_size]
  simp [ofL]
  exact List.take_of_length_le (by omega)
theorem split_hit {a b : List UInt8} (h : (46 : UInt8) ∉ a) (k : Nat) : Lib.splitB dot 0 (k + 1) (ofL (a ++ 46 :: b)) = ofL a :: Lib.splitB dot 0 k (ofL b) := by
  rw [Lib.splitB_hit dot 0 k _ a.length (idx_hit b h), ext_front, ext_back]
theorem count_hit {a b : List UInt8} (h : (46 : UInt8) ∉ a) : Lib.countB (ofL (a ++ 46 :: b)) dot = 1 + Lib.countB (ofL b) dot := by
  rw [Lib.countB_hit _ _ a.length (by decide) (idx_hit b h), ext_back]
theorem count_miss {a : List UInt8} (h : (46 : UInt8) ∉ a) : Lib.countB (ofL a) dot = 0 := Lib.countB_miss _ _ (idx_miss h)
theorem split_size : ∀ (k : Nat) (s : ByteArray) (i : Nat) (p : ByteArray), (Lib.splitB dot 0 k s)[i]? = some p → p.size + i ≤ s.size
  | 0, s, i, p, h => by
    rw [Lib.splitB_zero] at h
    cases i with
    | zero => simp at h; subst h; omega
    | succ i => simp at h
  | k + 1, s, i, p, h => by
    rcases Lib.indexB_cases s dot with hm | ⟨j, hj, hle⟩
    · rw [Lib.splitB_miss dot 0 _ s hm] at h
      cases i with
      | zero => simp at h; subst h; omega
      | succ i => simp at h
    · have hd : dot.size = 1 := rfl
      rw [Lib.splitB_hit dot 0 k s j hj] at h
      cases i with
      | zero =>
        simp only [List.getElem?_cons_zero, Option.some.injEq] at h
        subst h
        rw [ByteArray.size_extract]; omega
      | succ i =>
        simp only [List.getElem?_cons_succ] at h
        have := split_size k _ i p h
        rw [ByteArray.size_extract] at this
        omega

theorem dropW {p : UInt8 → Bool} : ∀ {l : List UInt8}, (∀ x ∈ l, p x = true) → l.dropWhile p = []
  | [], _ => rfl
  | x :: l, h => by
    rw [List.dropWhile_cons, if_pos (h x (List.mem_cons_self ..))]
    exact dropW fun y hy => h y (List.mem_cons_of_mem _ hy)
/-! ### Sixteen signs are trimmed to none -/
def hexS : ByteArray := ⟨#[48, 49, 50, 51, 52, 53, 54, 55, 56, 57, 97, 98, 99, 100, 101, 102]⟩
theorem dgt_in : ∀ n : Nat, n < 16 → hexS.data.toList.contains (dgt n) = true := by decide
theorem trim_hex (u k : Nat) : Lib.trimS (hexL u k) hexS.data.toList = [] := by
  have h : ∀ x ∈ hexL u k, hexS.data.toList.contains x = true := fun x hx => by
    obtain ⟨j, _, rfl⟩ := List.mem_map.1 hx
    exact dgt_in _ (Nat.mod_lt _ (by omega))
  unfold Lib.trimS Lib.trimRightS Lib.trimLeftS
  have e : (hexL u k).reverse.dropWhile (hexS.data.toList.contains ·) = [] := dropW fun x hx => h x (List.mem_reverse.1 hx)
  rw [e]; rfl
theorem hex_dot (u k : Nat) : (46 : UInt8) ∉ hexL u k := fun hm => by
  obtain ⟨j, _, he⟩ := List.mem_map.1 hm
  have : ∀ n : Nat, n < 16 → dgt n ≠ 46 := by decide
  exact this _ (Nat.mod_lt _ (by omega)) he
theorem Trim_k (s : ByteArray) (hs : s.size ≤ 9223372036854775807) (w : World) : FnP Tryd.prog F_strings_Trim #[.string s, .string hexS] w fun v w' => Ext w w' ∧ v = .string (ofL (Lib.trimS s.data.toList hexS.data.toList)) :=
  ⟨fun args w => Tryd.call38 args w, (Go.Proofs.Any.strings_Trim_laid Tryd.lays160 (by kernel_rfl) s hexS w hs (by decide) (fun j b h => (show ∀ b ∈ hexS.data.toList, b.toNat < 128 by decide) b (List.mem_of_getElem? h))).mono fun e w' ⟨he, hb⟩ => ⟨_, he, hb, rfl⟩⟩
theorem Split_k (s : ByteArray) (hs : s.size < 4294967281) (w : World) (g : GB w) : FnP Tryd.prog F_strings_Split #[.string s, .string dot] w fun v w' => Ext w w' ∧ v = .slice (some ⟨w.heap.size, 0, none⟩) (Lib.countB s dot + 1) (Lib.countB s dot + 1) ∧
    (∀ i p, (Lib.splitB dot 0 (Lib.countB s dot) s)[i]? = some p → cell w' (some ⟨w.heap.size, 0, none⟩) i = some (.string p)) ∧ w.heap.size < w'.heap.size := by
  obtain ⟨m, hm⟩ := g.maxLen
  refine ⟨fun args w => Tryd.call37 args w, (Tryd.strings_Split s dot m w hs (cell0 hm) (by decide)).mono fun e w' ⟨he, hw⟩ => ⟨_, he, ?_, rfl, fun i p hp => ?_, ?_⟩⟩
  · rw [hw]; exact Below.alloc (Below.refl _ _) (Nat.le_refl _) _
  · rw [hw]
    show World.cell? _ _ = _
    have : (Addr.add ⟨w.heap.size, 0, none⟩ i) = ⟨w.heap.size, i, none⟩ := by simp [Addr.add]; intro h; exact h.symm
    rw [this]
    rw [World.cell?_alloc_mark]
    simp [hp]
  · rw [hw]; show w.heap.size < (w.heap.push _).size; rw [Array.size_push]; omega
end Go.Proofs.YtjeboeahhhhbdaaDoor
