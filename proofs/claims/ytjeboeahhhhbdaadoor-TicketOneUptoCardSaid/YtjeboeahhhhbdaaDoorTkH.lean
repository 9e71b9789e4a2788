/- The law TicketTurned. -/
import Derived.Test.YtjeboeahhhhbdaaDoorTkL0
import Derived.Test.YtjeboeahhhhbdaaDoorTkF
set_option linter.unusedVariables false
set_option linter.unusedSimpArgs false
namespace Go.Proofs.YtjeboeahhhhbdaaDoor
open Go.Sx Go.RowKit

/-- '[]byte(s)': a new row that can be written to. -/
theorem run_s2bW {P : Program} {src dst e : TypeId} {s : ByteArray} (hs : P.underlying src = some .string) (hd : P.underlying dst = some (.slice e)) (he : P.underlying e = some (.int .u8)) {w : World} {K : Value → World → Prop}
    (hk : ∀ c w' (row : Array Value) (fr : Nat × Nat), Ext w w' → w'.heap[w.heap.size]? = some (.cells row e fr) → row.size ≤ fr.1 → (∀ i (h : i < s.data.toList.length), row[i]? = some (.int .u8 ((s.data.toList[i]).toNat : Int))) → K (.slice (some ⟨w.heap.size, 0, none⟩) s.size c) w') : Run P (.convert src dst (.string s)) w K := by
  refine ⟨_, _, run_bytes_of_string w src dst e s hs hd he, hk _ _ (bytesRow s (grownCap w s.size 0 e)) ((bytesRow s (grownCap w s.size 0 e)).size, (bytesRow s (grownCap w s.size 0 e)).size + 1) ?_ ?_ (Nat.le_refl _) fun i h => ?_⟩
  · exact Below.alloc (B := w.heap.size) (a := w) (w := w.drew) ⟨rfl, rfl, rfl, Nat.le_refl _, fun _ _ => rfl⟩ (Nat.le_refl _) _
  · exact Array.getElem?_push_size (xs := w.drew.heap)
  · have hi' : i < s.data.size := by simpa using h
    rw [bytesRow_at s _ i hi']
    simp

theorem turn_k {w : World} {b : Nat} {row : Array Value} {e : TypeId} {fr : Nat × Nat} {l : List UInt8} {i : Int} {c : UInt8} {b0 : Nat} (hb : w.heap[b]? = some (.cells row e fr)) (hfr : row.size ≤ fr.1) (hrow : ∀ j (h : j < l.length), row[j]? = some (.int .u8 ((l[j]).toNat : Int))) (i0 : 0 ≤ i) (hi : i < l.length) (hne : b ≠ b0)
    {K : World → Prop} (hk : ∀ w', (∀ w0 : World, Ext w0 w → w0.heap.size ≤ b → Ext w0 w') → (∀ j (h : j < (l.set i.toNat c).length), cell w' (some ⟨b, 0, none⟩) j = some (.int .u8 (((l.set i.toNat c)[j]).toNat : Int))) → K w') : Store w (pIdx (some ⟨b, 0, none⟩) i 1) [.int .u8 (c.toNat : Int)] [b0] K := by
  have hlt : i.toNat < row.size := by
    have := hrow i.toNat (by omega)
    exact (Array.getElem?_eq_some_iff.1 this).1
  have hbs : b < w.heap.size := (Array.getElem?_eq_some_iff.1 hb).1
  have ha : ∀ j, (Addr.add ⟨b, 0, none⟩ j) = ⟨b, j, none⟩ := fun j => by simp [Addr.add]; intro h; exact h.symm
  have ha2 : ∀ j k, (Addr.add ⟨b, j, none⟩ k) = ⟨b, j + k, none⟩ := fun j k => by rw [← ha j, add_add, ha]
  have hp : pIdx (some (⟨b, 0, none⟩ : Addr)) i 1 = some ⟨b, i.toNat, none⟩ := by simp [pIdx, ha]
  rw [hp]
  refine ⟨⟨by simp, fun j hj => ?_, fun j hj a h => ?_, fun b' hb' a h => ?_, by simp [Value.oneCell']⟩, fun w' hw' => ?_⟩
  · obtain rfl : j = 0 := by simpa using hj
    simp only [cell, Option.bind_some, add_zero, World.cell?, hb]
    rw [Array.getElem?_eq_getElem hlt]; rfl
  · obtain rfl : j = 0 := by simpa using hj
    cases h
    rw [add_zero]
    unfold World.frozen?
    rw [hb]
    simp; omega
  · cases h
    obtain rfl : b' = b0 := by simpa using hb'
    exact hne
  · have hw'' : w' = w.setCell ⟨b, i.toNat, none⟩ (.int .u8 (c.toNat : Int)) := by
      rw [hw']; simp [setCells, add_zero]
    have hheap : w'.heap = w.heap.modify b fun | .cells cs t f => .cells (cs.set! i.toNat (.int .u8 (c.toNat : Int))) t f | o => o := by rw [hw'']; rfl
    have hb' : w'.heap[b]? = some (.cells (row.set! i.toNat (.int .u8 (c.toNat : Int))) e fr) := by
      rw [hheap, Array.getElem?_modify]
      simp [hb]
    refine hk w' (fun w0 h0 hs => ⟨by rw [hw'']; exact h0.os, by rw [hw'']; exact h0.tape, by rw [hw'']; exact h0.output, by rw [hheap, Array.size_modify]; exact h0.size, fun k hk => ?_⟩) fun j h => ?_
    · rw [hheap, Array.getElem?_modify, if_neg (by omega)]
      exact h0.block k hk
    · simp only [cell, Option.bind_some, ha, World.cell?, hb']
      rw [List.length_set] at h
      rw [List.getElem_set, Array.set!_eq_setIfInBounds, Array.getElem?_setIfInBounds]
      by_cases hj : i.toNat = j
      · subst hj; rw [if_pos rfl, if_pos rfl]; simp [hlt]
      · rw [if_neg hj, if_neg hj]; exact hrow j h

theorem core_TicketTurned (W : World) (hg : GB W) : ∀ key : Int, InR .u64 key → ∀ t_0 : ByteArray, t_0.size ≤ 9223372036854775807 → ∀ t_1 : Int, InR .i64 t_1 → ∀ t_2 : Int, InR .i64 t_2 → ∀ t_3 : Int, InR .i64 t_3 → ∀ at_v : Int, InR .i64 at_v → ∀ c : Int, InR .u8 c → ∀ now : Int, InR .i64 now →
    FnP Tryd.prog F_shiftbellkeep_TicketTurned #[.int .u64 key, .agg #[.string t_0, .int .i64 t_1, .int .i64 t_2, .int .i64 t_3], .int .i64 at_v, .int .u8 c, .int .i64 now] W fun v W' => v = .bool true ∧ Ext W W' := by
  intro key hk t_0 ht0 t_1 _ t_2 _ t_3 _ i _ c hc now _
  have hk : 0 ≤ key ∧ key ≤ 18446744073709551615 := hk
  have hc : 0 ≤ c ∧ c ≤ 255 := hc
  let t : Tk := ⟨t_0, t_1, t_2, t_3⟩
  refine ok_shiftbellkeep_TicketTurned key t_0 t_1 t_2 t_3 i c now W _ fun b0 hb0 w1 h1 => (tickets_k w1).mono fun v w2 ⟨e2, hv⟩ => ⟨e2, true, hv, (fun h => by cases h), fun _ w4 h4 => ?_⟩
  refine (Seal_k key hk t ht0 w4 (hg.ext h4).toGA).mono fun v w5 ⟨e5, s, e, hv, he, hne, h0e⟩ => ⟨e5, s, e, hv, fun h => h.1.2, fun h => h.2, fun hor w8 h8 => ⟨b_true ?_, h8⟩, fun hand w8 x8 => ?_⟩
  · rw [Bool.or_eq_true, decide_eq_true_eq, decide_eq_true_eq]
    by_cases h : e = 0
    · exact .inl h
    · exact .inr (hne h)
  obtain ⟨⟨⟨hz, hi0⟩, hi1⟩, hcs⟩ := hand
  have ok := he.1 hz
  have hs := h0e hz
  have h8 := extB_ext x8
  have lt8 := x8.lt b0 (by simp)
  have hsl := seal_len (key := key) ok
  have hsz : s.size = (sealL key t).length := by rw [hs, ofL_size]
  obtain ⟨c', rfl⟩ : ∃ c' : UInt8, c = (c'.toNat : Int) := ⟨UInt8.ofNat c.toNat, by rw [u8_nat (by omega)]; omega⟩
  have hil : i < (sealL key t).length := by omega
  have hne2 : (sealL key t)[i.toNat]? ≠ some c' := fun h => by
    apply hcs
    unfold sAt
    rw [hs]
    show (((sealL key t).getD i.toNat 0).toNat : Int) = _
    rw [List.getD_eq_getElem?_getD, h]; rfl
  refine run_s2bW (e := T_uint8) (by kernel_rfl) (by kernel_rfl) (by kernel_rfl) fun cap w9 row fr e9 hb9 hfr hrow => ⟨e9, _, _, _, rfl, by simp, hi0, hi1, ?_⟩
  have hL : s.data.toList = sealL key t := by rw [hs]; rfl
  rw [hL] at hrow
  refine turn_k hb9 hfr hrow hi0 hil (by omega) fun w13 hx13 hcells w14 h14 => ?_
  have x13 : Ext W w13 := hx13 W (h8.trans e9) h8.size
  have hlen : ((sealL key t).set i.toNat c').length = s.size := by rw [List.length_set, hsz]
  refine ⟨.string (ofL ((sealL key t).set i.toNat c')), w14, ?_, Ext.refl _, _, rfl, fun w17 h17 => ?_⟩
  · have := run_convert_bytes_back (P := Tryd.prog) w14 45 9 T_uint8 ⟨w8.heap.size, 0, none⟩ cap ((sealL key t).set i.toNat c') (by kernel_rfl) (by kernel_rfl) (by kernel_rfl) fun j hj => by
      have := ext_cell h14 (hcells j hj)
      simpa [cell] using this
    rw [hlen] at this
    exact this
  refine (Open_k key hk (ofL ((sealL key t).set i.toNat c')) (by rw [ofL_size]; omega) now w17 ((hg.ext x13).ext h17)).mono fun v w18 ⟨e18, u, e', hv, _, hu1, hu2, _⟩ => ⟨e18, u.user, u.from', u.til, u.most, e', hv, fun b24 _ => ⟨fun hn w25 h25 => eqT (t := u) (u := tk0) fun b hb => ⟨Ext.refl _, b, rfl, fun w28 h28 => ⟨b_true (hb.2 (hu1 hn)), x13.trans h28⟩⟩, fun h0 => ?_⟩⟩
  obtain ⟨oku, hsu, _⟩ := hu2 h0
  exact (turned hk (t := t) (u := u) (i := i.toNat) (c := c') (by omega) hne2 (ofL_inj hsu).symm).elim
end Go.Proofs.YtjeboeahhhhbdaaDoor
