/- Bytes as texts; sums; frames of events. -/
import Derived.Test.YtenppnomdejmlaaGreatDoorGood
set_option linter.unusedVariables false
set_option linter.unusedSimpArgs false
namespace Go.Proofs.YtenppnomdejmlaaGreatDoor
open Go.Sx Go.RowKit

/-! ### Bytes -/
abbrev Bs := List UInt8
def bI (l : Bs) : List Int := l.map fun b => (b.toNat : Int)
def bT (l : Bs) : ByteArray := ⟨l.toArray⟩
theorem bI_len (l : Bs) : (bI l).length = l.length := by simp [bI]
theorem bI_app (a b : Bs) : bI (a ++ b) = bI a ++ bI b := by simp [bI]
theorem bI_rng (l : Bs) : ∀ x ∈ bI l, 0 ≤ x ∧ x ≤ 255 := fun x hx => by
  obtain ⟨b, hb, rfl⟩ := List.mem_map.1 hx
  have := b.toNat_lt
  omega
theorem bI_inj : ∀ {a b : Bs}, bI a = bI b → a = b
  | [], [], _ => rfl
  | [], b :: r, h => by simp [bI] at h
  | a :: l, [], h => by simp [bI] at h
  | a :: l, b :: r, h => by
    simp only [bI, List.map_cons, List.cons.injEq] at h
    have h1 : a = b := UInt8.toNat_inj.1 (by have := h.1; omega)
    rw [h1, bI_inj (a := l) (b := r) h.2]
theorem bT_inj {a b : Bs} : bT a = bT b ↔ a = b := by
  refine ⟨fun h => ?_, fun h => by rw [h]⟩
  have : (bT a).data.toList = (bT b).data.toList := by rw [h]
  simpa [bT] using this
theorem bT_size (l : Bs) : (bT l).size = l.length := rfl
/-- A number's last byte. -/
def ub (x : Int) : UInt8 := UInt8.ofNat (x % 256).toNat
theorem ub_nat (x : Int) : ((ub x).toNat : Int) = x % 256 := by
  unfold ub
  rw [UInt8.toNat_ofNat']
  omega
theorem wrap8 (x : Int) : IntKind.wrap .u8 x = ((ub x).toNat : Int) := by
  rw [ub_nat]
  simp [IntKind.wrap, IntKind.signed, IntKind.bits]
theorem bytes_of {xs : List Int} (h : ∀ x ∈ xs, InR .u8 x) : ∃ bs : Bs, bI bs = xs := by
  induction xs with
  | nil => exact ⟨[], rfl⟩
  | cons x r ih =>
    obtain ⟨bs, hb⟩ := ih fun y hy => h y (List.mem_cons_of_mem _ hy)
    have h1 : 0 ≤ x ∧ x ≤ 255 := h x (List.mem_cons_self ..)
    refine ⟨ub x :: bs, ?_⟩
    simp only [bI, List.map_cons] at hb ⊢
    rw [hb, ub_nat, Int.emod_eq_of_lt h1.1 (by omega)]
theorem bytes_arg {W : World} {p : Option Addr} {l c : Nat} (h : SlcArg Tryz.prog W T_uint8 p l c) : ∃ bs : Bs, bs.length = l ∧ Ints .u8 W p (bI bs) := by
  obtain ⟨xs, h1, h2, h3⟩ := h.ints (k := .u8) (by kernel_rfl) (by kernel_rfl)
  obtain ⟨bs, rfl⟩ := bytes_of h2
  exact ⟨bs, by rw [← h1, bI_len], h3⟩

theorem run_b2s {P : Program} {src dst e : TypeId} (hs : P.underlying src = some (.slice e)) (he : P.underlying e = some (.int .u8)) (hd : P.underlying dst = some .string) {w : World} {p : Option Addr} {l c : Nat} {bs : Bs} (hl : bs.length = l) (h : Ints .u8 w p (bI bs))
    {K : Value → World → Prop} (hk : K (.string (bT bs)) w) : Run P (.convert src dst (.slice p l c)) w K := by
  refine ⟨_, w, ?_, hk⟩
  refine (run_convert_bytes_string w src dst e p l c hs he hd).trans ?_
  subst hl
  cases p with
  | none =>
    cases bs with
    | nil => rfl
    | cons b r => exact absurd rfl (cell_p (h 0 (.int .u8 b.toNat) rfl))
  | some a =>
    have hld := run_loadCells_list (P := P) w a ((bI bs).map (.int .u8)) fun j v hv => by
      have := h j v hv
      simpa [cell] using this
    rw [List.length_map, bI_len] at hld
    rw [run_bytesToString w a bs.length c (bI bs) hld, foldl_push_bytes]
    congr 2
    simp only [bI, bT, List.map_map]
    congr 1
    show #[] ++ _ = _
    rw [Array.empty_append]
    congr 1
    conv => rhs; rw [← List.map_id bs]
    refine List.map_congr_left fun b _ => ?_
    simp
theorem run_s2bJ {P : Program} {src dst e : TypeId} {s : ByteArray} (hs : P.underlying src = some .string) (hd : P.underlying dst = some (.slice e)) (he : P.underlying e = some (.int .u8)) {w : World} {K : Value → World → Prop}
    (hk : ∀ p c w', Ext w w' → Ints .u8 w' p (bI s.data.toList) → K (.slice p s.size c) w') : Run P (.convert src dst (.string s)) w K := by
  refine ⟨_, _, run_bytes_of_string w src dst e s hs hd he, hk _ _ _ ?_ fun i v hv => ?_⟩
  · exact Below.alloc (B := w.heap.size) (a := w) (w := w.drew) ⟨rfl, rfl, rfl, Nat.le_refl _, fun _ _ => rfl⟩ (Nat.le_refl _) _
  · obtain ⟨hi, hv⟩ := List.getElem?_eq_some_iff.1 hv
    have hi' : i < s.data.size := by simpa [bI] using hi
    have hc := World.cell?_alloc_mark w.drew (bytesRow s (grownCap w s.size 0 e)) e ((bytesRow s (grownCap w s.size 0 e)).size, (bytesRow s (grownCap w s.size 0 e)).size + 1) i
    rw [bytesRow_at s _ i hi'] at hc
    simp only [cell, Option.bind_some]
    have ha : (Addr.add ⟨w.heap.size, 0, none⟩ i) = ⟨w.drew.heap.size, i, none⟩ := by simp [Addr.add]; intro h; exact h.symm
    rw [ha, hc, ← hv]
    simp [bI]
/-- Nothing is added. -/
theorem run_app0 {P : Program} {t ty e : TypeId} {s b : Nat} {z : Value} (he : slEl P t = some (e, s, b, z)) {w : World} {p q : Option Addr} {n c d : Nat} (hnc : n ≤ c) {K : Value → World → Prop} (hk : K (.slice p n c) w) : Run P (.append #[t, t] ty [.slice p n c, .slice q 0 d]) w K := by
  obtain ⟨i, g1, g2, g3, rfl, rfl, g6⟩ := slEl_some he
  refine ⟨_, w, ?_, hk⟩
  show (Builtin.append_ #[t, t] ty #[.slice p n c, .slice q 0 d]).run P w = _
  cases p <;> cases q <;> simp [Builtin.append_, run_underlying g1, sizeOf, typeInfo, g2, Builtin.lenOf, Builtin.firstCells, loadCells, loadCellsFrom, hnc, storeCells]
/-- Bytes are added to bytes of the call's own. -/
theorem run_appB {B : Nat} {w : World} {p q : Option Addr} {n c m d : Nat} {a b : Bs} {K : Value → World → Prop} (ho : Own B w T_uint8 1 p n c ((bI a).map (.int .u8))) (hB : B ≤ w.heap.size) (hm : b.length = m) (hn : Ints .u8 w q (bI b)) (hb : n + m ≤ 140737488355328)
    (hk : ∀ p' c' w', Own B w' T_uint8 1 p' (n + m) c' ((bI (a ++ b)).map (.int .u8)) → Grew w w' p p' → K (.slice p' (n + m) c') w') : Run Tryz.prog (.append #[T_sl_uint8, T_sl_uint8] T_sl_uint8 [.slice p n c, .slice q m d]) w K := by
  cases b with
  | nil =>
    simp at hm; subst hm
    refine run_app0 elem_sl_uint8 ho.le.1 (hk p c w (by simpa using ho) (grew_of_ext (Ext.refl w)))
  | cons x r =>
    refine run_app elem_sl_uint8 (by omega) ho hB (fun hq => cell_p (hn 0 (.int .u8 x.toNat) rfl) hq) (news := (bI (x :: r)).map (.int .u8)) (by simp [bI_len, ← hm]) hn (by intro u hu; obtain ⟨y, _, rfl⟩ := List.mem_map.1 hu; rfl) (by omega) (by omega) fun p' c' w' o g _ => hk p' c' w' ?_ g
    rw [bI_app, List.map_append]; exact o
theorem run_litB {w : World} (bs : Bs) {n : Nat} {parts : List (Nat × Value)} {K : Value → World → Prop} (hp : parts = partsOf 0 ((bI bs).map (.int .u8))) (hn : n = bs.length) (h0 : 0 < n) (h24 : n ≤ 16777216)
    (hk : ∀ w', (∀ B, B ≤ w.heap.size → Own B w' T_uint8 1 (some ⟨w.heap.size, 0, none⟩) n n ((bI bs).map (.int .u8))) → Ext w w' → K (.slice (some ⟨w.heap.size, 0, none⟩) n n) w') : Run Tryz.prog (.buildSlice T_sl_uint8 n parts) w K := by
  refine run_lit elem_sl_uint8 ((bI bs).map (.int .u8)) hp (by simp [bI_len, hn]) (fun v hv => by obtain ⟨y, _, rfl⟩ := List.mem_map.1 hv; rfl) (by omega) (by omega) fun w' o e => hk w' (fun B hB => ?_) e
  have := o B hB
  have hcs : (List.map (Value.int IntKind.u8) (bI bs)).flatMap (fun v => v.cells.toList) = (bI bs).map (.int .u8) := by
    generalize bI bs = l
    induction l with
    | nil => rfl
    | cons a r ih => simp only [List.map_cons, List.flatMap_cons, ih]; rfl
  rwa [hcs] at this

/-! ### Sums -/
def mixJ (u c : Int) : Int := iBit .xor .u64 (IntKind.wrap .u64 ((IntKind.wrap .u64 (u + c)) * 11400714785074694791)) (iBit .shr .u64 (IntKind.wrap .u64 ((IntKind.wrap .u64 (u + c)) * 11400714785074694791)) 31)
def sumJ (key : Int) (l : Bs) : Int := (bI l).foldl mixJ key
theorem sumJ_take (key : Int) (l : Bs) {k : Nat} (h : k < l.length) : sumJ key (l.take (k + 1)) = mixJ (sumJ key (l.take k)) ((bI l).getD k 0) := by
  rw [List.take_succ_eq_append_getElem h]
  unfold sumJ
  rw [bI_app, List.foldl_append]
  simp [bI, List.getD_eq_getElem?_getD, h]
theorem Sum_k (key : Int) (s : Bs) (hs : s.length ≤ 9223372036854775806) (w : World) : FnP Tryz.prog F_ticket_Sum #[.int .u64 key, .string (bT s)] w fun v w' => Ext w w' ∧ v = .int .u64 (sumJ key s) := by
  refine ok_ticket_Sum key (bT s) w _ fun w0 h0 => run_s2bJ (e := T_uint8) (by kernel_rfl) (by kernel_rfl) (by kernel_rfl) fun p c w1 e1 hb => ⟨e1, p, s.length, c, rfl, ?_⟩
  have hlen := bI_len s
  have hb : Ints .u8 w1 p (bI s) := hb
  refine ⟨fun u k w' => w' = w1 ∧ 0 ≤ k ∧ k ≤ s.length ∧ u = sumJ key (s.take k.toNat), fun _ k _ => (s.length - k).toNat, ⟨rfl, by omega, by omega, by simp [sumJ, bI]⟩, ?_⟩
  rintro u k w1 ⟨rfl, hk0, hk1, rfl⟩
  refine ⟨fun hlt => ?_, fun hge w9 h9 => ⟨(h0.trans e1).trans h9, ?_⟩⟩
  · have g := Ints.idx hb hk0 (by omega)
    have hr := bI_rng s _ (getD_mem (bI s) 0 (i := k.toNat) (by omega))
    refine ⟨fun hq => cell_p g (pIdx_none.2 hq), hk0, hlt, _, g, ⟨by show (0 : Int) ≤ _; omega, by show _ ≤ (18446744073709551615 : Int); omega⟩, i64 (by omega), ⟨rfl, by omega, by omega, ?_⟩, by simp only []; omega⟩
    rw [show (k + 1).toNat = k.toNat + 1 by omega, sumJ_take _ _ (by omega)]
    rfl
  · rw [List.take_of_length_le (by omega)]
end Go.Proofs.YtenppnomdejmlaaGreatDoor
