/- Package book: its steps, in memory. -/
import Derived.Test.YtlgcnfmifkbefaaBkP
import Derived.Test.YtlgcnfmifkbefaaShf
import Derived.Lib.OwnBridge
import Derived.Lib.AppendIntMem
set_option linter.unusedVariables false
set_option linter.unusedSimpArgs false
namespace Go.Proofs.Ytlgcnfmifkbefaa
open Go.Sx Go.RowKit

theorem own_some {B : Nat} {w : World} {p : Option Addr} {e : TypeId} {c n : Nat} {xs : List Value} (h : Own B w e 1 p n c xs) (hn : 0 < n) : ∃ g, p = some ⟨g, 0, none⟩ ∧ B ≤ g ∧ g < w.heap.size := by
  rcases h.2 with ⟨e0, h2⟩ | ⟨g, cap, cur, e0, hb, hg, _⟩
  · have := h.1; rw [h2] at this; simp at this; omega
  · refine ⟨g, by simpa using (Value.slice.inj e0).1, hb, ?_⟩
    rcases Nat.lt_or_ge g w.heap.size with h' | h'
    · exact h'
    · rw [Array.getElem?_eq_none h'] at hg; cases hg

theorem Sort_k {B : Nat} {w : World} {p : Option Addr} {c n : Nat} (xs : List Int) (hn : n = xs.length) (h0 : 0 < n) (h62 : n < 4611686018427387904) (ho : Own B w T_int 1 p n c (xs.map (.int .i64))) :
    FnP Try.prog F_slices_Sort_int_int #[.slice p n c] w fun v w' => v = .tuple #[] ∧ Own B w' T_int 1 p n c ((srt xs).map (.int .i64)) ∧ Grew w w' p p := by
  obtain ⟨g, rfl, hb, hg⟩ := own_some ho h0
  obtain ⟨g', cap, he, _, _, hnc, hcm, hl, hH⟩ := Lib.holds_of_ownsRow ho (by simp)
  have he := Value.slice.inj he
  have h1 := Option.some.inj he.1
  have h1 : g = g' := by simpa using h1
  subst h1
  obtain rfl := he.2.2
  refine ⟨fun args w => Try.call21 args w, ?_⟩
  rw [hn]
  refine (Try.slices_Sort_int g 0 c xs w hH hg (by omega)).mono fun e w' ⟨hv, q, os, hw⟩ => ⟨_, hv, rfl, ?_, ?_⟩
  · have o1 := Lib.ownsRow_putRow (q := q) (k := n) ho (ys := srt xs) (by rw [(srt_perm xs).length_eq, hn]) (Nat.le_refl _)
    rw [List.take_of_length_le (by rw [(srt_perm xs).length_eq, hn]; exact Nat.le_refl _)] at o1
    have o2 := Lib.ownsRow_grow o1 0 os
    rw [← hn, hw]
    exact o2
  · rw [hw]
    refine ⟨⟨rfl, rfl, rfl, ?_, fun k hk hne => ?_⟩, .inl rfl⟩
    · show w.heap.size ≤ ((Go.Sort.putRow (Value.int .i64) (Sort.ahead w q) g 0 (srt xs).toArray).heap ++ os).size
      rw [Array.size_append]
      have : (Go.Sort.putRow (Value.int .i64) (Sort.ahead w q) g 0 (srt xs).toArray).heap.size = w.heap.size := by simp [Go.Sort.putRow, Go.Sort.mapBlock, Sort.ahead]
      omega
    · have hkg : g ≠ k := fun h => hne (by simp [blk, h])
      show ((Go.Sort.putRow (Value.int .i64) (Sort.ahead w q) g 0 (srt xs).toArray).heap ++ os)[k]? = w.heap[k]?
      rw [Array.getElem?_append_left (by simpa [Go.Sort.putRow, Go.Sort.mapBlock, Sort.ahead] using hk)]
      simp [Go.Sort.putRow, Go.Sort.mapBlock, Sort.ahead, Array.getElem?_modify, hkg]

theorem Compact_k {B : Nat} {w : World} {p : Option Addr} {c n : Nat} (xs : List Int) (hn : n = xs.length) (h0 : 0 < n) (h62 : n < 4611686018427387904) (ho : Own B w T_int 1 p n c (xs.map (.int .i64))) :
    FnP Try.prog F_slices_Compact_int_int #[.slice p n c] w fun v w' => v = .slice p (Lib.compact xs).length c ∧ Own B w' T_int 1 p (Lib.compact xs).length c ((Lib.compact xs).map (.int .i64)) ∧ Grew w w' p p := by
  obtain ⟨g, rfl, hb, hg⟩ := own_some ho h0
  obtain ⟨g', cap, he, _, _, hnc, hcm, hl, hH⟩ := Lib.holds_of_ownsRow ho (by simp)
  have he := Value.slice.inj he
  have h1 := Option.some.inj he.1
  have h1 : g = g' := by simpa using h1
  subst h1
  obtain rfl := he.2.2
  have hcl := Lib.compact_length_le xs
  refine ⟨fun args w => Try.call22 args w, ?_⟩
  rw [hn]
  refine (Try.slices_Compact_int g 0 c xs w hH (by omega) (by omega)).mono fun e w' ⟨hv, q, hw⟩ => ⟨_, hv, rfl, ?_, ?_⟩
  · have o1 := Lib.ownsRow_putRow (q := q) (k := (Lib.compact xs).length) ho (ys := Lib.compact xs ++ List.replicate (xs.length - (Lib.compact xs).length) 0) (by simp; omega) (by omega)
    rw [List.take_append_of_le_length (Nat.le_refl _), List.take_length] at o1
    rw [hw]
    exact o1
  · rw [hw]
    refine ⟨⟨rfl, rfl, rfl, ?_, fun k hk hne => ?_⟩, .inl rfl⟩
    · simp [Go.Sort.putRow, Go.Sort.mapBlock, Sort.ahead]
    · have hkg : g ≠ k := fun h => hne (by simp [blk, h])
      simp [Go.Sort.putRow, Go.Sort.mapBlock, Sort.ahead, Array.getElem?_modify, hkg]

/-- Some elements more, beside tracked blocks. -/
theorem push_valsB {P : Program} {t ty e : TypeId} {s b : Nat} {z : Value} (he : slEl P t = some (e, s, b, z)) (hs : 0 < s) (vs : List Value) (hvs : ∀ v ∈ vs, v.cells.size = s) {ys : List Value} (hy : (vs.flatMap fun v => v.cells.toList) = ys) (hl : ys.length = vs.length * s) (h1 : ∀ u ∈ ys, u.oneCell' = true) (h0 : 0 < vs.length) (h24 : vs.length * s ≤ 16777216)
    {m : Nat} {parts : List (Nat × Value)} (hp : parts = partsOf 0 vs) (hm' : m = vs.length)
    {B : Nat} {w : World} {p : Option Addr} {n c : Nat} {xs : List Value} {ns : List Nat}
    {K : Option Addr → Nat → Nat → World → Prop} (ho : Own B w e s p n c xs) (hB : B ≤ w.heap.size) (hns : ∀ b ∈ ns, ∀ x, p = some x → x.block ≠ b) (hb : (n + m) * b ≤ 140737488355328) (hm : n + m ≤ 9223372036854775807)
    (hk : ∀ p' c' w', Own B w' e s p' (n + m) c' (xs ++ ys) → Grew w w' p p' → p' ≠ none → (∀ b ∈ ns, ∀ x, p' = some x → x.block ≠ b) → K p' (n + m) c' w') :
    ∀ w1, ExtB [] ns w w1 → Run P (.buildSlice t m parts) w1 fun v2 w2 => Ext w1 w2 ∧ ∃ q : Option Addr, ∃ m' : Nat, ∃ d : Nat, v2 = .slice q m' d ∧ ∀ w3, ExtB [] ns w2 w3 →
      Run P (.append #[t, t] ty [.slice p n c, .slice q m' d]) w3 fun v4 w4 => Kept ns w3 w4 ∧ ∃ q' : Option Addr, ∃ m' : Nat, ∃ d' : Nat, v4 = .slice q' m' d' ∧ K q' m' d' w4 := by
  subst hm'
  intro w1 x1
  have e1 := extB_ext x1
  refine run_lit he vs hp rfl hvs (Nat.mul_pos h0 hs) h24 fun w2 o2 e2 => ⟨e2, _, _, _, rfl, fun w3 x3 => ?_⟩
  have e3 := extB_ext x3
  have o2 := (o2 w1.heap.size (Nat.le_refl _)).ext e3
  rw [hy] at o2
  have ho' := ((ho.ext e1).ext e2).ext e3
  have hsz : B ≤ w3.heap.size := Nat.le_trans hB (Nat.le_trans e1.size (Nat.le_trans e2.size e3.size))
  refine run_app he hs ho' hsz (by simp) (news := ys) hl o2.cells h1 hb hm fun p' c' w4 h2 h3 h4 => ⟨fun b hb => ?_, _, _, _, rfl, hk p' c' w4 h2 ?_ ?_ ?_⟩
  · refine h3.by_.block b (x3.lt b hb) fun he => ?_
    cases p with
    | none => cases he
    | some y => simp [blk] at he; exact hns b hb y rfl he.symm
  · exact Grew.of_ext e1 (Grew.of_ext e2 (Grew.of_ext e3 h3))
  · intro hn; have := h4.1 hn; omega
  · intro b hb y hy heq
    rcases h3.new with hn | hn
    · subst hy
      cases p with
      | none => simp [blk] at hn
      | some z' => simp [blk] at hn; exact hns b hb z' rfl (by omega)
    · have := hn y hy
      have := x3.lt b hb
      omega

abbrev encP (x : Int × Int) : List Value := [.int .i64 x.1, .int .i64 x.2]
def stepsL (L : List Sl) : List (Int × Int) := (times L).map fun t => (t, load L t)
theorem stepsL_len (L : List Sl) : (stepsL L).length = (times L).length := by simp [stepsL]
theorem stepsL_at {L : List Sl} {k : Nat} (h : k < (times L).length) : (stepsL L).getD k default = (tm' L k, load L (tm' L k)) := by
  have : (times L)[k]? = some (tm' L k) := getElem?_getD (times L) 0 h
  rw [List.getD_eq_getElem?_getD, stepsL, List.getElem?_map, this]; rfl
theorem ends_len (L : List Sl) : (ends L).length = 2 + 2 * L.length := by
  unfold ends
  have : ∀ M : List Sl, (M.flatMap fun s => [s.f, s.t]).length = 2 * M.length := fun M => by
    induction M with
    | nil => rfl
    | cons s r ih => simp [List.flatMap_cons, ih]; omega
  show (L.flatMap fun s => [s.f, s.t]).length + 1 + 1 = _
  rw [this]; omega
theorem times_len (L : List Sl) : (times L).length ≤ 2 + 2 * L.length := by
  have := Lib.compact_length_le (srt (ends L))
  rw [(srt_perm (ends L)).length_eq, ends_len] at this
  exact this
theorem load_take_succ (L : List Sl) (t : Int) {k : Nat} (h : k < L.length) : load (L.take (k + 1)) t = load (L.take k) t + part (L.getD k default) t := by
  rw [List.take_add_one, load_app, getElem?_getD L default h]
  simp [load]
abbrev SlsAt (w : World) (p : Option Addr) (L : List Sl) : Prop := Recs 3 encS w p L
theorem slot_at {w : World} {p : Option Addr} {L : List Sl} (h : SlsAt w p L) {k : Int} (h0 : 0 ≤ k) (hk : k < L.length) : p ≠ none ∧ pIdx p k 3 ≠ none ∧ Go.Sx.cell w (pIdx p k 3) 0 = some (.int .i64 (L.getD k.toNat default).f) ∧ Go.Sx.cell w (pIdx p k 3) 1 = some (.int .i64 (L.getD k.toNat default).t) ∧ Go.Sx.cell w (pIdx p k 3) 2 = some (.int .i64 (L.getD k.toNat default).n) := by
  have g0 := h.idx default h0 hk (j := 0) rfl
  exact ⟨fun hq => cell_p g0 (pIdx_none.2 hq), cell_p g0, g0, h.idx default h0 hk (j := 1) rfl, h.idx default h0 hk (j := 2) rfl⟩

theorem steps_k (p : Option Addr) (c : Nat) (L : List Sl) (hn : ∀ s ∈ L, 0 ≤ s.n ∧ s.n ≤ 1099511627776) (h101 : L.length ≤ 101) (w : World) (hL : SlsAt w p L) :
    FnP Try.prog F_book_steps #[.slice p L.length c] w fun v w' => Ext w w' ∧ ∃ q d, v = .slice q (times L).length d ∧ (times L).length ≤ d ∧ Recs 2 encP w' q (stepsL L) := by
  refine ok_book_steps p L.length c w _ fun w0 h0 => ?_
  refine run_lit elem_sl_int [.int .i64 0, .int .i64 1000000] rfl rfl (by intro v hv; simp at hv; rcases hv with rfl | rfl <;> rfl) (by omega) (by omega) fun w1 o1 e1 => ⟨e1, _, _, _, rfl, ?_⟩
  have x1 := h0.trans e1
  have o1 := o1 w.heap.size h0.size
  let pre : Nat → List Int := fun k => 0 :: 1000000 :: (L.take k).flatMap fun s => [s.f, s.t]
  have hpl : ∀ k, k ≤ L.length → (pre k).length = 2 + 2 * k := fun k hk => by
    have := ends_len (L.take k)
    rw [List.length_take, Nat.min_eq_left hk] at this
    exact this
  have hps : ∀ k, k < L.length → pre (k + 1) = pre k ++ [(L.getD k default).f, (L.getD k default).t] := fun k hk => by
    show 0 :: 1000000 :: (L.take (k + 1)).flatMap _ = _
    rw [List.take_add_one, getElem?_getD L default hk, List.flatMap_append]; rfl
  refine ⟨fun a l d k w' => Ext w w' ∧ 0 ≤ k ∧ k ≤ L.length ∧ l = 2 + 2 * k.toNat ∧ Own w.heap.size w' T_int 1 a l d ((pre k.toNat).map (.int .i64)), fun _ _ _ k _ => (L.length - k).toNat, ⟨x1, by omega, by omega, rfl, by simpa [Value.cells, pre] using o1⟩, ?_⟩
  rintro a l d k w8 ⟨x8, hk0, hk1, rfl, o8⟩
  refine ⟨fun hlt => ?_, fun hge w9 h9 => ?_⟩
  · obtain ⟨hp, hp3, g0, g1, g2⟩ := slot_at (hL.ext x8) hk0 hlt
    refine ⟨hp, hk0, hlt, hp3, _, g0, _, g1, _, g2, fun b12 hb12 => ?_⟩
    refine push_valsB (m := 2) elem_sl_int (by omega) [.int .i64 (L.getD k.toNat default).f, .int .i64 (L.getD k.toNat default).t] (by intro v hv; simp at hv; rcases hv with rfl | rfl <;> rfl) (ys := [.int .i64 (L.getD k.toNat default).f, .int .i64 (L.getD k.toNat default).t]) rfl rfl (by intro v hv; simp at hv; rcases hv with rfl | rfl <;> rfl) (by simp) (by simp) rfl rfl o8 x8.size (fun b hb x hx => by simp at hb; subst hb; have := (o8.lt x hx).2; omega) (by omega) (by omega) fun p' c' w' o' g' _ _ => ⟨i64 (by omega), ⟨g'.ext x8 o8, by omega, by omega, by omega, ?_⟩, by simp only []; omega⟩
    rw [show (k + 1).toNat = k.toNat + 1 by omega, hps k.toNat (by omega)]
    simpa using o'
  obtain rfl : k = L.length := by omega
  have hpre : pre (L.length : Int).toNat = ends L := by
    show 0 :: 1000000 :: (L.take (L.length : Int).toNat).flatMap _ = _
    rw [show (L.length : Int).toNat = L.length by omega, List.take_length]; rfl
  rw [hpre] at o8
  have hln : 2 + 2 * (L.length : Int).toNat = (ends L).length := by rw [ends_len]; omega
  have hel := ends_len L
  have x9 := x8.trans h9
  refine (Sort_k (ends L) hln (by omega) (by omega) (o8.ext h9)).mono fun v w10 ⟨hv, o10, g10⟩ => ⟨hv, fun w11 h11 => ?_⟩
  have x10 : Ext w w10 := g10.ext x9 (o8.ext h9)
  refine (Compact_k (srt (ends L)) (hln.trans (srt_perm (ends L)).length_eq.symm) (by omega) (by omega) (o10.ext h11)).mono fun v w12 ⟨hv, o12, g12⟩ => ⟨_, _, _, hv, ?_⟩
  have x12 : Ext w w12 := g12.ext (x10.trans h11) (o10.ext h11)
  change Own w.heap.size w12 T_int 1 a (times L).length d ((times L).map (.int .i64)) at o12
  show ∃ I16 M16, _
  have htl := times_len L
  refine ⟨fun out l' c' k w' => Ext w w' ∧ 0 ≤ k ∧ k ≤ (times L).length ∧ l' = k.toNat ∧ Own w.heap.size w' T_int 1 a (times L).length d ((times L).map (.int .i64)) ∧ Own w.heap.size w' T_book_step 2 out l' c' (((stepsL L).take k.toNat).flatMap encP) ∧ Apart a out,
    fun _ _ _ k _ => ((times L).length - k).toNat, ⟨x12, by omega, by omega, rfl, o12, Own.nil, Apart.nil⟩, ?_⟩
  rintro out l' c' k w19 ⟨x19, hk0, hk1, rfl, o19, q19, hap⟩
  refine ⟨fun hlt => ?_, fun hge w20 h20 => ⟨x19.trans h20, out, c', ?_, ?_, ?_⟩⟩
  · have hlt : k < ((times L).length : Int) := hlt
    have gt := o19.int_at hk0 hlt
    have ha := o19.ne1 (by omega) (by omega)
    have htm : (times L).getD k.toNat 0 = tm' L k.toNat := rfl
    rw [htm] at gt
    refine ⟨ha, hk0, hlt, _, gt, fun b21 hb21 => ⟨fun j cA cN w' => w' = w19 ∧ 0 ≤ j ∧ j ≤ L.length ∧ cA = tm' L k.toNat ∧ cN = load (L.take j.toNat) (tm' L k.toNat), fun j _ _ _ => (L.length - j).toNat, ⟨rfl, by omega, by omega, rfl, rfl⟩, ?_⟩⟩
    rintro j cA cN w26 ⟨rfl, hj0, hj1, rfl, rfl⟩
    refine ⟨fun hjl => ?_, fun hjg w27 x27 => ?_⟩
    · obtain ⟨hp, hp3, g0, g1, g2⟩ := slot_at (hL.ext x19) hj0 hjl
      have hfree : Free [b21] (pIdx p j 3) := fun b hb x hx => by
        simp at hb; subst hb
        obtain ⟨a', ha', hlt', _⟩ := cell_some g0
        rw [hx] at ha'; obtain rfl := Option.some.inj ha'
        omega
      have hsucc := load_take_succ L (tm' L k.toNat) (k := j.toNat) (by omega)
      have hb1 := load_bound (L := L.take j.toNat) (fun s hs => hn s (List.mem_of_mem_take hs)) (tm' L k.toNat)
      have hlj : (L.take j.toNat).length ≤ 101 := by rw [List.length_take]; omega
      have hnj := hn _ (getD_mem L default (i := j.toNat) (by omega))
      refine ⟨hp, hj0, hjl, hp3, _, ⟨g0, hfree⟩, _, ⟨g1, hfree⟩, _, ⟨g2, hfree⟩, fun b30 _ => ⟨fun hin => ⟨i64 (by omega), i64 (by omega), ⟨rfl, by omega, by omega, rfl, ?_⟩, by simp only []; omega⟩, fun hout => ⟨i64 (by omega), ⟨rfl, by omega, by omega, rfl, ?_⟩, by simp only []; omega⟩⟩⟩
      · rw [show (j + 1).toNat = j.toNat + 1 by omega, hsucc, show part (L.getD j.toNat default) (tm' L k.toNat) = (L.getD j.toNat default).n from if_pos hin]
      · rw [show (j + 1).toNat = j.toNat + 1 by omega, hsucc, show part (L.getD j.toNat default) (tm' L k.toNat) = 0 from if_neg (by omega)]; omega
    · have hjL : load (L.take j.toNat) (tm' L k.toNat) = load L (tm' L k.toNat) := by rw [show j.toNat = L.length by omega, List.take_length]
      rw [hjL]
      have e27 : Ext w26 w27 := but_ext x27 (Ext.refl _) (by intro d hd; simp at hd; omega)
      have x27' : ExtB [] [b21] w26 w27 := ⟨But.of_ext e27, x27.lt⟩
      have htk : (stepsL L).take (k.toNat + 1) = (stepsL L).take k.toNat ++ [(tm' L k.toNat, load L (tm' L k.toNat))] := by
        rw [List.take_add_one, getElem?_getD (stepsL L) default (by rw [stepsL_len]; omega), stepsL_at (by omega)]; rfl
      refine push_valsB (m := 1) elem_sl_book_step (by omega) [.agg #[.int .i64 (tm' L k.toNat), .int .i64 (load L (tm' L k.toNat))]] (by intro v hv; simp at hv; subst hv; rfl) (ys := encP (tm' L k.toNat, load L (tm' L k.toNat))) rfl rfl (by intro v hv; simp at hv; rcases hv with rfl | rfl <;> rfl) (by simp) (by simp) rfl rfl q19 x19.size (fun b hb x hx => by simp at hb; subst hb; have := (q19.lt x hx).2; omega) (by omega) (by omega) (fun p' c' w' o' g' _ _ => ⟨i64 (by omega), ⟨g'.ext x19 q19, by omega, by omega, by omega, o19.st hap g', ?_, hap.grew o19 g'⟩, by simp only []; omega⟩) w27 x27'
      rw [show (k + 1).toNat = k.toNat + 1 by omega, htk, List.flatMap_append]
      simpa using o'
  · rw [show k.toNat = (times L).length by have : ((times L).length : Int) ≤ k := hge; omega]
  · have := q19.le.1
    have : ((times L).length : Int) ≤ k := hge
    omega
  · have hk : k.toNat = (stepsL L).length := by rw [stepsL_len]; have : ((times L).length : Int) ≤ k := hge; omega
    rw [hk, List.take_length] at q19
    exact (q19.recs fun _ _ => rfl).ext h20
end Go.Proofs.Ytlgcnfmifkbefaa
